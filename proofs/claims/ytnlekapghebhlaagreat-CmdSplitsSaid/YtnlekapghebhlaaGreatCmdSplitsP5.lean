/-
  Part 5 of the texts under the law CmdSplits: the layer of abstract values, walks and plain laws. Conditions: those that each theorem names.
-/
import Derived.WalkKit
import Derived.Lib.Hide
import Derived.Deep.OwnRows
import Derived.Deep.Draws
import Derived.Test.YtnlekapghebhlaaGreatChecked
import Derived.ProofKit
import Derived.OpenShut
import Derived.ShutString
import Derived.ChangeOld
import Derived.Below
import Derived.SizedLaws
import Derived.Deep.Slices
import Derived.Deep.Fields
import Derived.ChangeSame
import Derived.Test.YtnlekapghebhlaaGreatProg
import Derived.Test.YtnlekapghebhlaaGreatCmdSplitsP4
namespace Go.Proofs.YtnlekapghebhlaaGreat
set_option linter.unusedVariables false
set_option linter.unusedSimpArgs false
structure Field where
 name:List UInt8
 bits:Int
 low:Int
structure Kind where
 name:List UInt8
 fields:List Field
structure Ent where
 n:Int
 gen:Int
structure Comp where
 kind:Int
 vals:List Int
structure Item where
 ent:Ent
 comps:List Comp
structure Wd where
 kinds:List Kind
 gens:List Int
 items:List Item
structure Ref where
 kind:Int
 field:Int
structure Arg where
 has:Bool
 n:Int
 ref:Ref
structure Op where
 act:Int
 to:Ref
 a:Arg
 b:Arg
instance:DecidableEq Field:=fun a b=>decidable_of_iff (a.name = b.name ∧ a.bits = b.bits ∧ a.low = b.low) (by cases a;cases b;simp)
instance:DecidableEq Kind:=fun a b=>decidable_of_iff (a.name = b.name ∧ a.fields = b.fields) (by cases a;cases b;simp)
instance:DecidableEq Ent:=fun a b=>decidable_of_iff (a.n = b.n ∧ a.gen = b.gen) (by cases a;cases b;simp)
instance:DecidableEq Comp:=fun a b=>decidable_of_iff (a.kind = b.kind ∧ a.vals = b.vals) (by cases a;cases b;simp)
instance:DecidableEq Item:=fun a b=>decidable_of_iff (a.ent = b.ent ∧ a.comps = b.comps) (by cases a;cases b;simp)
instance:DecidableEq Wd:=fun a b=>decidable_of_iff (a.kinds = b.kinds ∧ a.gens = b.gens ∧ a.items = b.items) (by cases a;cases b;simp)
def I64 (x:Int):Prop:=-9223372036854775808 ≤ x ∧ x ≤ 9223372036854775807
section
open Go.RowKit
abbrev Reg:=Nat → Prop
def Lt (w:World):Reg:=fun b=>b < w.heap.size
def Same (S:Reg) (w w':World):Prop:=∀ b,S b → w'.heap[b]? = w.heap[b]?
section
variable {w w' w'':World} {S T:Reg}
theorem bel {n m:Nat} {a b c:World} (h:Below n a b) (k:Below m b c) (hm:n ≤ m):Below n a c:=h.trans (k.mono hm)
def Row (w:World) (S:Reg) (sz:Nat) (v:Value) (n:Nat) (xs:List Value):Prop :=
 xs.length = n * sz ∧ ∃ A cap,v = .slice A n cap ∧ n ≤ cap ∧ (0 < n → ∃ b off,A = some ⟨b,off,none⟩ ∧ S b ∧ ∀ j u,xs[j]? = some u → w.cell? ⟨b,off + j,none⟩ = some u)
variable {sz n:Nat} {v:Value} {xs:List Value}
theorem Row.nil (w:World) (S:Reg) (sz:Nat):Row w S sz (.slice none 0 0) 0 []:=⟨by simp,none,0,rfl,Nat.le_refl _,fun h=>absurd h (by omega)⟩
end
def Cells {α:Type} (C:List Value → α → Prop) (sz:Nat):List Value → List α → Prop
 | xs,[]=>xs = []
 | xs,x :: l=>∃ c ys,xs = c ++ ys ∧ c.length = sz ∧ C c x ∧ Cells C sz ys l
section
variable {α:Type} {C C':List Value → α → Prop} {sz:Nat} {xs ys:List Value} {l m:List α}
theorem Cells.nil:Cells C sz [] []:=rfl
theorem Cells.length (h:Cells C sz xs l):xs.length = l.length * sz:=by
 induction l generalizing xs with
 | nil=>have:xs = []:=h;simp [this]
 | cons x l ih =>
  obtain ⟨c,ys,rfl,h1,_,h3⟩:=h
  simp [ih h3,h1,Nat.add_mul,Nat.add_comm]
end
def Sl {α:Type} (w:World) (S:Reg) (sz:Nat) (C:World → Reg → List Value → α → Prop) (v:Value) (l:List α):Prop :=
 ∃ xs,Row w S sz v l.length xs ∧ Cells (C w S) sz xs l
section
variable {α:Type} {w w':World} {S T:Reg} {sz:Nat} {C:World → Reg → List Value → α → Prop} {v:Value} {l:List α}
theorem Sl.nil (w:World) (S:Reg) (sz:Nat) (C:World → Reg → List Value → α → Prop):Sl w S sz C (.slice none 0 0) []:=⟨[],Row.nil w S sz,.nil⟩
end
abbrev strV (l:List UInt8):Value:=.string ⟨l.toArray⟩
def intC (_:World) (_:Reg) (c:List Value) (x:Int):Prop:=c = [.int .i64 x]
def fieldC (_:World) (_:Reg) (c:List Value) (f:Field):Prop:=c = [strV f.name,.int .i64 f.bits,.int .i64 f.low]
abbrev Ints (w:World) (S:Reg) (v:Value) (l:List Int):Prop:=Sl w S 1 intC v l
abbrev Fields (w:World) (S:Reg) (v:Value) (l:List Field):Prop:=Sl w S 3 fieldC v l
def kindC (w:World) (S:Reg) (c:List Value) (k:Kind):Prop:=∃ vf,c = [strV k.name,vf] ∧ Fields w S vf k.fields
abbrev Kinds (w:World) (S:Reg) (v:Value) (l:List Kind):Prop:=Sl w S 2 kindC v l
def compC (w:World) (S:Reg) (c:List Value) (x:Comp):Prop:=∃ v,c = [.int .i64 x.kind,v] ∧ Ints w S v x.vals
abbrev Comps (w:World) (S:Reg) (v:Value) (l:List Comp):Prop:=Sl w S 2 compC v l
def itemC (w:World) (S:Reg) (c:List Value) (x:Item):Prop:=∃ v,c = [.int .i64 x.ent.n,.int .i64 x.ent.gen,v] ∧ Comps w S v x.comps
abbrev Items (w:World) (S:Reg) (v:Value) (l:List Item):Prop:=Sl w S 3 itemC v l
section
variable {w w':World} {S T:Reg} {v:Value}
variable {A:Option Addr} {n cap i:Nat}
end
section
variable {α:Type} {w w':World} {base:Nat} {e:TypeId} {S T:Reg} {sz:Nat} {C:World → Reg → List Value → α → Prop} {v:Value} {l:List α}
end
section
variable {w w':World} {b:Nat} {e:TypeId} {l:List Int}
end
section
variable {w w':World} {g:Nat} {t:TypeId} {cs:Array Value}
end
end
section
open Go.ChangeShapes Go.WideShapes Go.ChangeAt Go.RowKit Go.Deep
theorem flat_at {α:Type} {sz:Nat} {cs:α → List Value} {f:Nat → Option Value} (hcs:∀ x,(cs x).length = sz):∀ (l:List α) (off:Nat),(∀ i (hi:i < l.length) j u,(cs l[i])[j]? = some u → f (off + (i * sz + j)) = some u) →
  ∀ j u,(l.flatMap cs)[j]? = some u → f (off + j) = some u:=by
 intro l
 induction l with
 | nil=>intro off _ j u h;simp at h
 | cons x l ih =>
  intro off h j u hj
  rw [List.flatMap_cons] at hj
  rcases Nat.lt_or_ge j sz with hlt | hge
  ·rw [List.getElem?_append_left (by rw [hcs];exact hlt)] at hj
   have:=h 0 (by simp) j u hj
   simpa using this
  ·rw [List.getElem?_append_right (by rw [hcs];exact hge),hcs] at hj
   have:=ih (off + sz) (fun i hi j u hu=>by
    have:=h (i + 1) (by simp;omega) j u hu
    rwa [Nat.add_mul,Nat.one_mul,show off + (i * sz + sz + j) = off + sz + (i * sz + j) by omega] at this) (j - sz) u hj
   rwa [show off + sz + (j - sz) = off + j by omega] at this
theorem cells_flat {α:Type} {sz:Nat} {cs:α → List Value} {C:List Value → α → Prop} (hcs:∀ x,(cs x).length = sz) (hC:∀ x,C (cs x) x) (l:List α):Cells C sz (l.flatMap cs) l:=by
 induction l with
 | nil=>rfl
 | cons x l ih=>exact ⟨cs x,l.flatMap cs,by rw [List.flatMap_cons],hcs x,hC x,ih⟩
theorem sl_of_cells {α:Type} {w:World} {sz:Nat} {C:World → Reg → List Value → α → Prop} {a:Addr} {n cap:Nat} {l:List α} {cs:α → List Value} (hn:n ≤ cap) (hl:l.length = n) (hsz:0 < sz) (hcs:∀ x,(cs x).length = sz) (hC:∀ x,C w (Lt w) (cs x) x)
  (hcell:∀ i (hi:i < l.length) j u,(cs l[i])[j]? = some u → w.cell? (a.add (i * sz + j)) = some u):Sl w (Lt w) sz C (.slice (some a) n cap) l:=by
 subst hl
 refine ⟨l.flatMap cs,⟨?_,some a,cap,rfl,hn,fun h0=>?_⟩,cells_flat hcs hC l⟩
 ·have:=(cells_flat (C:=fun _ _=>True) hcs (fun _=>trivial) l).length
  exact this
 ·obtain ⟨b,off,spot⟩:=a
  have h1:∃ u,(cs l[0])[0]? = some u:=⟨_,List.getElem?_eq_getElem (by rw [hcs];exact hsz)⟩
  obtain ⟨u,hu⟩:=h1
  have h2:=hcell 0 h0 0 u hu
  have hspot:spot = none:=by simpa [Addr.add] using World.cell?_spot h2
  subst hspot
  refine ⟨b,off,rfl,?_,?_⟩
  ·rw [Go.WideShapes.add_plain] at h2
   unfold World.cell? at h2
   simp only at h2
   show b < w.heap.size
   rcases Nat.lt_or_ge b w.heap.size with h | h
   ·exact h
   ·rw [Array.getElem?_eq_none h] at h2
    cases h2
  ·refine flat_at (f:=fun k=>w.cell? ⟨b,k,none⟩) hcs l off fun i hi j u hu=>?_
   have:=hcell i hi j u hu
   rwa [Go.WideShapes.add_plain] at this
section
variable {H:Type} {enc:TypeId × Value → H} {w:World} {a:Option Addr} {len cap:Nat} {d:DataW H} {p:List MemPlace}
theorem ints_arg (h:DataW.Trod enc Tryz.prog w 0 (fun _=>true) true 22 (.slice a len cap) d p) :
  ∃ z:List Int,Ints w (Lt w) (.slice a len cap) z ∧ (z = [] ∨ ∃ elems spare,d = .slice elems spare ∧ z.length ≤ elems.length + spare.length):=by
 obtain ⟨fuel,hf⟩:=h
 rcases open_slice Tryz.underlying22 hf with ⟨hcs,_⟩ | ⟨x,l,c,m,n,D,Pl,hcs,hb,hl,hm,hmm,hx,hi⟩
 ·simp [Value.cells] at hcs
  obtain ⟨rfl,rfl,rfl⟩:=hcs
  exact ⟨[],Sl.nil _ _ _ _,.inl rfl⟩
 ·simp [Value.cells] at hcs
  obtain ⟨rfl,rfl,rfl⟩:=hcs
  have hlm:len ≤ m:=by rw [hmm];split <;> omega
  have hex:∀ i,∃ e:Int,i < len → ∀ j u,([Value.int .i64 e])[j]? = some u → w.cell? (x.add (i * 1 + j)) = some u:=by
   intro i
   by_cases hil:i < len
   ·obtain ⟨cs',hc,ht⟩:=hi i (by omega)
    rw [show Tryz.prog.cellsOf 3 = 1 from by kernel_rfl] at hc
    obtain ⟨_,hcl,hat⟩:=World.cells?_some hc
    obtain ⟨k,rfl,_⟩:=DataW.trod_int Tryz.underlying3 ht
    refine ⟨k,fun _ j u hu=>?_⟩
    have hj:j = 0:=by
     have:=(List.getElem?_eq_some_iff.1 hu).1
     simp at this
     omega
    subst hj
    have:=hat 0 (by omega)
    rw [Go.Deep.add_add] at this
    rw [this,hu]
   ·exact ⟨0,fun h=>absurd h hil⟩
  obtain ⟨f,hf'⟩:=Classical.axiomOfChoice hex
  refine ⟨(List.range len).map f,sl_of_cells (cs:=fun e=>[Value.int .i64 e]) hl (by simp) (by omega) (fun _=>rfl) (fun _=>rfl) (fun i hi' j u hu=>?_),.inr ⟨_,_,(Prod.mk.inj hx).1,by simp⟩⟩
  simp only [List.length_map,List.length_range] at hi'
  exact hf' i hi' j u (by simpa using hu)
end
end
section
def ixG (ks:List Int):Int → Option Value:=fun n=>if n ∈ ks then some (.int .i64 (ks.idxOf n:Nat)) else none
variable {α:Type}
abbrev keysC (l:List (Int × α)):List Int:=l.map (·.1)
def stPut (l:List (Int × α)) (n:Int) (v:α):List (Int × α):=if n ∈ keysC l then l.set ((keysC l).idxOf n) (n,v) else l ++ [(n,v)]
def stGet (l:List (Int × α)) (n:Int):Option α:=(l[(keysC l).idxOf n]?).map (·.2)
def stDrop (l:List (Int × α)) (n:Int):List (Int × α):=if n ∈ keysC l then (match l[l.length - 1]? with | some e=>(l.set ((keysC l).idxOf n) e).take (l.length - 1) | none=>l) else l
structure ColOK (l:List (Int × α)):Prop where
 nd:(keysC l).Nodup
 lt:∀ n ∈ keysC l,0 ≤ n ∧ n < 256
theorem nodup256 {ks:List Int} (h:ks.Nodup) (hl:∀ n ∈ ks,0 ≤ n ∧ n < 256):ks.length ≤ 256:=by
 have h1:(ks.map Int.toNat).Nodup:=by
  refine List.pairwise_map.2 (h.imp_of_mem fun ha hb hne e=>hne ?_)
  have:=hl _ ha
  have:=hl _ hb
  omega
 have h2:(ks.map Int.toNat) ⊆ List.range 256:=fun x hx=>by
  obtain ⟨n,hn,rfl⟩:=List.mem_map.1 hx
  have:=hl n hn
  rw [List.mem_range]
  omega
 have:=List.Nodup.length_le_of_subset h1 h2
 simpa using this
theorem ColOK.len {l:List (Int × α)} (h:ColOK l):l.length ≤ 256:=by
 have:=nodup256 h.nd h.lt
 simpa using this
theorem idx_lt {l:List (Int × α)} {n:Int} (h:n ∈ keysC l):(keysC l).idxOf n < l.length:=by
 have:=List.idxOf_lt_length_of_mem h
 simpa using this
theorem idx_at {l:List (Int × α)} {n:Int} (h:n ∈ keysC l):∃ v,l[(keysC l).idxOf n]? = some (n,v):=by
 have h1:=idx_lt h
 have h2:=List.getElem_idxOf (xs:=keysC l) (x:=n) (by simpa using h1)
 rw [List.getElem_map] at h2
 refine ⟨(l[(keysC l).idxOf n]).2,?_⟩
 rw [List.getElem?_eq_getElem h1]
 congr 1
 exact Prod.ext h2 rfl
theorem stGet_none {l:List (Int × α)} {n:Int} (h:n ∉ keysC l):stGet l n = none:=by
 unfold stGet
 rw [List.getElem?_eq_none]
 ·rfl
 ·rw [List.idxOf_eq_length h];simp
theorem stGet_mem {l:List (Int × α)} (h:ColOK l) {n:Int} {v:α}:stGet l n = some v ↔ (n,v) ∈ l:=by
 constructor
 ·intro e
  have hn:n ∈ keysC l:=Classical.byContradiction fun hn=>by rw [stGet_none hn] at e;cases e
  obtain ⟨u,hu⟩:=idx_at hn
  unfold stGet at e
  rw [hu] at e
  injection e with e
  simp only at e
  subst e
  exact List.mem_of_getElem? hu
 ·intro hm
  have hn:n ∈ keysC l:=List.mem_map.2 ⟨_,hm,rfl⟩
  obtain ⟨i,hi,e⟩:=List.getElem_of_mem hm
  have h1:(keysC l).idxOf n = i:=by
   have h2:(keysC l)[i]'(by simpa using hi) = n:=by rw [List.getElem_map,e]
   rw [← h2]
   exact h.nd.idxOf_getElem i _
  unfold stGet
  rw [h1,List.getElem?_eq_getElem hi,e]
  rfl
theorem stGet_some {l:List (Int × α)} {n:Int} (h:n ∈ keysC l):∃ v,stGet l n = some v:=by
 obtain ⟨u,hu⟩:=idx_at h
 exact ⟨u,by unfold stGet;rw [hu];rfl⟩
theorem ColOK.perm {l l':List (Int × α)} (h:ColOK l) (p:l.Perm l'):ColOK l' :=
 ⟨(p.map _).nodup_iff.1 h.nd,fun n hn=>h.lt n ((p.map _).mem_iff.2 hn)⟩
theorem stPut_new {l:List (Int × α)} {n:Int} {v:α} (h:n ∉ keysC l):stPut l n v = l ++ [(n,v)]:=if_neg h
theorem stPut_old {l:List (Int × α)} {n:Int} {v:α} (h:n ∈ keysC l):stPut l n v = l.set ((keysC l).idxOf n) (n,v):=if_pos h
theorem stPut_keys {l:List (Int × α)} {n:Int} {v:α} (h:n ∈ keysC l):keysC (stPut l n v) = keysC l:=by
 rw [stPut_old h,keysC,List.map_set]
 obtain ⟨u,hu⟩:=idx_at h
 have h1:=idx_lt h
 refine List.ext_getElem (by simp) fun i h2 h3=>?_
 rw [List.getElem_set]
 split
 ·rename_i e
  subst e
  have:=List.getElem_idxOf (xs:=keysC l) (x:=n) (by simpa using h1)
  exact this.symm
 ·rfl
theorem ColOK.put {l:List (Int × α)} (h:ColOK l) {n:Int} (hn:0 ≤ n ∧ n < 256) (v:α):ColOK (stPut l n v):=by
 by_cases hk:n ∈ keysC l
 ·refine ⟨by rw [stPut_keys hk];exact h.nd,fun m hm=>h.lt m (by rwa [stPut_keys hk] at hm)⟩
 ·rw [stPut_new hk]
  refine ⟨?_,fun m hm=>?_⟩
  ·rw [keysC,List.map_append]
   refine List.nodup_append.2 ⟨h.nd,by simp,fun a ha b hb e=>?_⟩
   simp only [List.map_cons,List.map_nil,List.mem_singleton] at hb
   subst hb e
   exact hk ha
  ·rw [keysC,List.map_append] at hm
   rcases List.mem_append.1 hm with hm | hm
   ·exact h.lt m hm
   ·simp only [List.map_cons,List.map_nil,List.mem_singleton] at hm
    subst hm
    exact hn
theorem stPut_mem {l:List (Int × α)} (h:ColOK l) {n:Int} {v:α} {m:Int} {u:α}:(m,u) ∈ stPut l n v ↔ (m = n ∧ u = v) ∨ (m ≠ n ∧ (m,u) ∈ l):=by
 by_cases hk:n ∈ keysC l
 ·obtain ⟨w,hw⟩:=idx_at hk
  have h1:=idx_lt hk
  rw [stPut_old hk]
  constructor
  ·intro hm
   obtain ⟨i,hi,e⟩:=List.getElem_of_mem hm
   rw [List.getElem_set] at e
   split at e
   ·injection e with e1 e2
    exact .inl ⟨e1.symm,e2.symm⟩
   ·rename_i hne
    refine .inr ⟨fun e2=>hne ?_,e ▸ List.getElem_mem _⟩
    have hi':i < l.length:=by simpa using hi
    have h2:(keysC l)[i]'(by simpa using hi') = n:=by rw [List.getElem_map,e,e2]
    rw [← h2]
    exact h.nd.idxOf_getElem i _
  ·rintro (⟨rfl,rfl⟩ | ⟨hne,hm⟩)
   ·exact List.mem_of_getElem? (i:=(keysC l).idxOf m) (by rw [List.getElem?_set_self h1])
   ·obtain ⟨i,hi,e⟩:=List.getElem_of_mem hm
    refine List.mem_of_getElem? (i:=i) ?_
    rw [List.getElem?_set_ne,List.getElem?_eq_getElem hi,e]
    intro e2
    have h3:l[i]? = some (m,u):=by rw [List.getElem?_eq_getElem hi,e]
    rw [← e2,hw] at h3
    injection h3 with h3
    injection h3 with h3 _
    exact hne h3.symm
 ·rw [stPut_new hk,List.mem_append,List.mem_singleton]
  constructor
  ·rintro (hm | e)
   ·exact .inr ⟨fun e=>hk (by subst e;exact List.mem_map.2 ⟨_,hm,rfl⟩),hm⟩
   ·injection e with e1 e2
    exact .inl ⟨e1,e2⟩
  ·rintro (⟨rfl,rfl⟩ | ⟨_,hm⟩)
   ·exact .inr rfl
   ·exact .inl hm
theorem stDrop_no {l:List (Int × α)} {n:Int} (h:n ∉ keysC l):stDrop l n = l:=if_neg h
theorem swap_perm {β:Type} {l:List β} {i:Nat} {x e:β} (hx:l[i]? = some x) (he:l[l.length - 1]? = some e):l.Perm (x :: (l.set i e).take (l.length - 1)):=by
 have hi:=(List.getElem?_eq_some_iff.1 hx).1
 obtain ⟨l',e',rfl⟩:∃ l' e',l = l' ++ [e']:=by
  rcases List.eq_nil_or_concat l with rfl | ⟨l',e',rfl⟩
  ·cases hi
  ·exact ⟨l',e',by simp⟩
 have hl:(l' ++ [e']).length - 1 = l'.length:=by simp
 rw [hl] at he ⊢
 rw [List.getElem?_append_right (Nat.le_refl _),Nat.sub_self] at he
 injection he with he
 subst he
 by_cases h:i < l'.length
 ·rw [List.getElem?_append_left h] at hx
  rw [List.set_append_left _ _ h,List.take_left' (by simp)]
  obtain ⟨R,h1,h2⟩:=perm_get hx
  refine List.perm_append_comm.trans ?_
  refine ((h1.cons e').trans (.swap ..)).trans ?_
  exact (h2 e').symm.cons x
 ·have hi':i = l'.length:=by simp at hi;omega
  subst hi'
  rw [List.getElem?_append_right (Nat.le_refl _),Nat.sub_self] at hx
  injection hx with hx
  subst hx
  rw [List.set_append_right _ _ (Nat.le_refl _),Nat.sub_self,List.set_cons_zero,List.take_left' rfl]
  exact List.perm_append_comm
theorem last_at {β:Type} {l:List β} (h:0 < l.length):∃ e,l[l.length - 1]? = some e:=⟨l[l.length - 1],List.getElem?_eq_getElem (by omega)⟩
theorem stDrop_perm {l:List (Int × α)} (h:ColOK l) {n:Int} {v:α} (hm:(n,v) ∈ l):l.Perm ((n,v) :: stDrop l n):=by
 have hk:n ∈ keysC l:=List.mem_map.2 ⟨_,hm,rfl⟩
 obtain ⟨w,hw⟩:=idx_at hk
 have h1:=idx_lt hk
 have hwv:w = v:=by
  have:=(stGet_mem h).2 hm
  unfold stGet at this
  rw [hw] at this
  injection this
 subst hwv
 obtain ⟨e,he⟩:=last_at (l:=l) (by omega)
 unfold stDrop
 rw [if_pos hk,he]
 exact swap_perm hw he
theorem stDrop_len {l:List (Int × α)} {n:Int} (hk:n ∈ keysC l):(stDrop l n).length = l.length - 1:=by
 have h1:=idx_lt hk
 obtain ⟨e,he⟩:=last_at (l:=l) (by omega)
 unfold stDrop
 rw [if_pos hk,he]
 simp
theorem ColOK.drop {l:List (Int × α)} (h:ColOK l) (n:Int):ColOK (stDrop l n):=by
 by_cases hk:n ∈ keysC l
 ·obtain ⟨v,hv⟩:=stGet_some hk
  have:=h.perm (stDrop_perm h ((stGet_mem h).1 hv))
  exact ⟨(List.nodup_cons.1 this.nd).2,fun m hm=>this.lt m (List.mem_cons_of_mem _ hm)⟩
 ·rw [stDrop_no hk];exact h
theorem stDrop_keys {l:List (Int × α)} (h:ColOK l) {n m:Int}:m ∈ keysC (stDrop l n) ↔ m ∈ keysC l ∧ m ≠ n:=by
 by_cases hk:n ∈ keysC l
 ·obtain ⟨v,hv⟩:=stGet_some hk
  have hp:=stDrop_perm h ((stGet_mem h).1 hv)
  have hd:=h.perm hp
  have hn:n ∉ keysC (stDrop l n):=(List.nodup_cons.1 hd.nd).1
  rw [(hp.map (·.1)).mem_iff (a:=m)]
  simp only [List.map_cons,List.mem_cons]
  constructor
  ·intro hm
   exact ⟨.inr hm,fun e=>hn (by subst e;exact hm)⟩
  ·rintro ⟨e | hm,hne⟩
   ·exact absurd e hne
   ·exact hm
 ·rw [stDrop_no hk]
  exact ⟨fun hm=>⟨hm,fun e=>hk (e ▸ hm)⟩,fun hm=>hm.1⟩
theorem stDrop_get {l:List (Int × α)} (h:ColOK l) {n m:Int} (hne:m ≠ n):stGet (stDrop l n) m = stGet l m:=by
 by_cases hm:m ∈ keysC l
 ·obtain ⟨v,hv⟩:=stGet_some hm
  rw [hv,stGet_mem (h.drop n)]
  have h1:=(stGet_mem h).1 hv
  by_cases hk:n ∈ keysC l
  ·obtain ⟨w,hw⟩:=stGet_some hk
   have:=(stDrop_perm h ((stGet_mem h).1 hw)).mem_iff.1 h1
   rcases List.mem_cons.1 this with e | e
   ·injection e with e _
    exact absurd e hne
   ·exact e
  ·rw [stDrop_no hk];exact h1
 ·rw [stGet_none hm,stGet_none (fun hm'=>hm ((stDrop_keys h).1 hm').1)]
theorem stPut_get {l:List (Int × α)} (h:ColOK l) {n:Int} (hn:0 ≤ n ∧ n < 256) {v:α} {m:Int}:stGet (stPut l n v) m = if m = n then some v else stGet l m:=by
 split
 ·rename_i e
  subst e
  exact (stGet_mem (h.put hn v)).2 ((stPut_mem h).2 (.inl ⟨rfl,rfl⟩))
 ·rename_i hne
  cases hg:stGet l m with
  | some w=>exact (stGet_mem (h.put hn v)).2 ((stPut_mem h).2 (.inr ⟨hne,(stGet_mem h).1 hg⟩))
  | none =>
   refine stGet_none fun hm=>?_
   obtain ⟨⟨m',w⟩,hw,rfl⟩:=List.mem_map.1 hm
   rcases (stPut_mem h).1 hw with ⟨e,_⟩ | ⟨_,hw⟩
   ·exact hne e
   ·rw [(stGet_mem h).2 hw] at hg
    cases hg
theorem ixG_mem {ks:List Int} {n:Int} (h:n ∈ ks):ixG ks n = some (.int .i64 (ks.idxOf n:Nat)):=if_pos h
theorem ixG_no {ks:List Int} {n:Int} (h:n ∉ ks):ixG ks n = none:=if_neg h
theorem ixG_app {ks:List Int} {n:Int} (h:n ∉ ks):updG (ixG ks) n (.int .i64 (ks.length:Nat)) = ixG (ks ++ [n]):=by
 funext m
 unfold updG
 split
 ·rename_i e
  subst e
  rw [ixG_mem (by simp),List.idxOf_append,if_neg h]
  simp
 ·rename_i hne
  by_cases hm:m ∈ ks
  ·rw [ixG_mem hm,ixG_mem (by simp [hm]),List.idxOf_append,if_pos hm]
  ·rw [ixG_no hm,ixG_no (by simp [hm,hne])]
theorem idx_of_at {ks:List Int} (hd:ks.Nodup) {i:Nat} {n:Int} (h:ks[i]? = some n):n ∈ ks ∧ ks.idxOf n = i:=by
 obtain ⟨hi,e⟩:=List.getElem?_eq_some_iff.1 h
 subst e
 exact ⟨List.getElem_mem _,hd.idxOf_getElem i _⟩
theorem ixG_drop {ks:List Int} (hd:ks.Nodup) {i:Nat} {n e:Int} (hn:ks[i]? = some n) (he:ks[ks.length - 1]? = some e):delG (updG (ixG ks) e (.int .i64 (i:Nat))) n = ixG ((ks.set i e).take (ks.length - 1)):=by
 have hp:=swap_perm hn he
 have hd2:(n :: (ks.set i e).take (ks.length - 1)).Nodup:=hp.nodup_iff.1 hd
 obtain ⟨hn1,hd3⟩:=List.nodup_cons.1 hd2
 obtain ⟨hi,_⟩:=List.getElem?_eq_some_iff.1 hn
 have hmem:∀ m,m ∈ ks ↔ m = n ∨ m ∈ (ks.set i e).take (ks.length - 1):=fun m=>by rw [hp.mem_iff];simp
 funext m
 unfold delG
 split
 ·rename_i h
  subst h
  rw [ixG_no hn1]
 ·rename_i hmn
  unfold updG
  split
  ·rename_i hme
   subst hme
   have hi2:i < ks.length - 1:=by
    refine Classical.byContradiction fun h=>hmn ?_
    have:i = ks.length - 1:=by omega
    rw [this,he] at hn
    injection hn
   obtain ⟨h1,h2⟩:=idx_of_at hd3 (i:=i) (n:=m) (by rw [List.getElem?_take_of_lt hi2,List.getElem?_set_self hi])
   rw [ixG_mem h1,h2]
  ·rename_i hme
   by_cases hm:m ∈ ks
   ·obtain ⟨j,hj,ej⟩:=List.getElem_of_mem hm
    have hj1:ks[j]? = some m:=by rw [List.getElem?_eq_getElem hj,ej]
    have hj2:j < ks.length - 1:=by
     refine Classical.byContradiction fun h=>hme ?_
     have:j = ks.length - 1:=by omega
     rw [this,he] at hj1
     injection hj1 with hj1
     exact hj1.symm
    have hij:i ≠ j:=fun h=>by
     subst h
     rw [hn] at hj1
     injection hj1 with hj1
     exact hmn hj1.symm
    obtain ⟨h1,h2⟩:=idx_of_at hd hj1
    obtain ⟨h3,h4⟩:=idx_of_at hd3 (i:=j) (n:=m) (by rw [List.getElem?_take_of_lt hj2,List.getElem?_set_ne hij,hj1])
    rw [ixG_mem h1,h2,ixG_mem h3,h4]
   ·rw [ixG_no hm,ixG_no fun h=>hm ((hmem m).2 (.inr h))]
structure StK where
 X:Nat
 V:Nat
 R:Nat
 M:Nat
end
instance tAg3:TAg Tryz.prog 3 false:=⟨by kernel_rfl⟩
instance tSize3:TSize Tryz.prog 3 1:=⟨by kernel_rfl⟩
instance tZe3:TZe Tryz.prog 3 [.int .i64 0]:=⟨by kernel_rfl⟩
instance tBy3:TBy Tryz.prog 3 8:=⟨by kernel_rfl⟩
instance tAg4:TAg Tryz.prog 4 false:=⟨by kernel_rfl⟩
instance tSize4:TSize Tryz.prog 4 1:=⟨by kernel_rfl⟩
instance tZe4:TZe Tryz.prog 4 [.bool false]:=⟨by kernel_rfl⟩
instance tBy4:TBy Tryz.prog 4 1:=⟨by kernel_rfl⟩
instance tAg9:TAg Tryz.prog 9 false:=⟨by kernel_rfl⟩
instance tSize9:TSize Tryz.prog 9 1:=⟨by kernel_rfl⟩
instance tZe9:TZe Tryz.prog 9 [.string ByteArray.empty]:=⟨by kernel_rfl⟩
instance tSg9:TSg Tryz.prog 9:=⟨by kernel_rfl⟩
instance tAg22:TAg Tryz.prog 22 false:=⟨by kernel_rfl⟩
instance tSize22:TSize Tryz.prog 22 1:=⟨by kernel_rfl⟩
instance tZe22:TZe Tryz.prog 22 [.slice none 0 0]:=⟨by kernel_rfl⟩
instance tEl22:TEl Tryz.prog 22 3:=⟨by kernel_rfl⟩
instance tRo22:TRo Tryz.prog 22 3 1 8:=⟨by kernel_rfl⟩
instance tAg23:TAg Tryz.prog 23 false:=⟨by kernel_rfl⟩
instance tSize23:TSize Tryz.prog 23 1:=⟨by kernel_rfl⟩
instance tEl23:TEl Tryz.prog 23 83:=⟨by kernel_rfl⟩
instance tRo23:TRo Tryz.prog 23 83 2 40:=⟨by kernel_rfl⟩
instance tAg24:TAg Tryz.prog 24 false:=⟨by kernel_rfl⟩
instance tSize24:TSize Tryz.prog 24 1:=⟨by kernel_rfl⟩
instance tEl24:TEl Tryz.prog 24 55:=⟨by kernel_rfl⟩
instance tRo24:TRo Tryz.prog 24 55 3 40:=⟨by kernel_rfl⟩
instance tAg26:TAg Tryz.prog 26 true:=⟨by kernel_rfl⟩
instance tSize26:TSize Tryz.prog 26 3:=⟨by kernel_rfl⟩
instance tZe26:TZe Tryz.prog 26 [.slice none 0 0,.slice none 0 0,.slice none 0 0]:=⟨by kernel_rfl⟩
instance tFl26_0:TFl Tryz.prog 26 0 0 23:=⟨by kernel_rfl⟩
instance tFl26_1:TFl Tryz.prog 26 1 1 22:=⟨by kernel_rfl⟩
instance tFl26_2:TFl Tryz.prog 26 2 2 24:=⟨by kernel_rfl⟩
instance tSt26:TSt Tryz.prog 26 [.slice none 0 0,.slice none 0 0,.slice none 0 0] [(0,1),(1,1),(2,1)]:=⟨by kernel_rfl⟩
instance tAg32:TAg Tryz.prog 32 true:=⟨by kernel_rfl⟩
instance tSize32:TSize Tryz.prog 32 2:=⟨by kernel_rfl⟩
instance tZe32:TZe Tryz.prog 32 [.int .i64 0,.int .i64 0]:=⟨by kernel_rfl⟩
instance tFl32_0:TFl Tryz.prog 32 0 0 3:=⟨by kernel_rfl⟩
instance tFl32_1:TFl Tryz.prog 32 1 1 3:=⟨by kernel_rfl⟩
instance tSt32:TSt Tryz.prog 32 [.int .i64 0,.int .i64 0] [(0,1),(1,1)]:=⟨by kernel_rfl⟩
instance tAg42:TAg Tryz.prog 42 true:=⟨by kernel_rfl⟩
instance tSize42:TSize Tryz.prog 42 2:=⟨by kernel_rfl⟩
instance tZe42:TZe Tryz.prog 42 [.int .i64 0,.slice none 0 0]:=⟨by kernel_rfl⟩
instance tBy42:TBy Tryz.prog 42 32:=⟨by kernel_rfl⟩
instance tFl42_0:TFl Tryz.prog 42 0 0 3:=⟨by kernel_rfl⟩
instance tFl42_1:TFl Tryz.prog 42 1 1 22:=⟨by kernel_rfl⟩
instance tSt42:TSt Tryz.prog 42 [.int .i64 0,.slice none 0 0] [(0,1),(1,1)]:=⟨by kernel_rfl⟩
instance tAg52:TAg Tryz.prog 52 false:=⟨by kernel_rfl⟩
instance tSize52:TSize Tryz.prog 52 1:=⟨by kernel_rfl⟩
instance tZe52:TZe Tryz.prog 52 [.slice none 0 0]:=⟨by kernel_rfl⟩
instance tEl52:TEl Tryz.prog 52 57:=⟨by kernel_rfl⟩
instance tRo52:TRo Tryz.prog 52 57 5 56:=⟨by kernel_rfl⟩
instance tAg53:TAg Tryz.prog 53 false:=⟨by kernel_rfl⟩
instance tSize53:TSize Tryz.prog 53 1:=⟨by kernel_rfl⟩
instance tEl53:TEl Tryz.prog 53 42:=⟨by kernel_rfl⟩
instance tRo53:TRo Tryz.prog 53 42 2 32:=⟨by kernel_rfl⟩
instance tAg55:TAg Tryz.prog 55 true:=⟨by kernel_rfl⟩
instance tSize55:TSize Tryz.prog 55 3:=⟨by kernel_rfl⟩
instance tZe55:TZe Tryz.prog 55 [.int .i64 0,.int .i64 0,.slice none 0 0]:=⟨by kernel_rfl⟩
instance tFl55_0:TFl Tryz.prog 55 0 0 32:=⟨by kernel_rfl⟩
instance tFl55_1:TFl Tryz.prog 55 1 2 53:=⟨by kernel_rfl⟩
instance tSt55:TSt Tryz.prog 55 [.int .i64 0,.int .i64 0,.slice none 0 0] [(0,2),(2,1)]:=⟨by kernel_rfl⟩
instance tAg57:TAg Tryz.prog 57 true:=⟨by kernel_rfl⟩
instance tSize57:TSize Tryz.prog 57 5:=⟨by kernel_rfl⟩
instance tZe57:TZe Tryz.prog 57 [.int .i64 0,.int .i64 0,.int .i64 0,.int .i64 0,.slice none 0 0]:=⟨by kernel_rfl⟩
instance tFl57_0:TFl Tryz.prog 57 0 0 3:=⟨by kernel_rfl⟩
instance tFl57_1:TFl Tryz.prog 57 1 1 32:=⟨by kernel_rfl⟩
instance tFl57_2:TFl Tryz.prog 57 2 3 3:=⟨by kernel_rfl⟩
instance tFl57_3:TFl Tryz.prog 57 3 4 53:=⟨by kernel_rfl⟩
instance tSt57:TSt Tryz.prog 57 [.int .i64 0,.int .i64 0,.int .i64 0,.int .i64 0,.slice none 0 0] [(0,1),(1,2),(3,1),(4,1)]:=⟨by kernel_rfl⟩
instance tAg58:TAg Tryz.prog 58 false:=⟨by kernel_rfl⟩
instance tSize58:TSize Tryz.prog 58 1:=⟨by kernel_rfl⟩
instance tZe58:TZe Tryz.prog 58 [.slice none 0 0]:=⟨by kernel_rfl⟩
instance tEl58:TEl Tryz.prog 58 32:=⟨by kernel_rfl⟩
instance tRo58:TRo Tryz.prog 58 32 2 16:=⟨by kernel_rfl⟩
instance tEl69:TEl Tryz.prog 69 52:=⟨by kernel_rfl⟩
instance tFl74_0:TFl Tryz.prog 74 0 0 22:=⟨by kernel_rfl⟩
instance tSt74:TSt Tryz.prog 74 [.slice none 0 0] [(0,1)]:=⟨by kernel_rfl⟩
instance tAg81:TAg Tryz.prog 81 false:=⟨by kernel_rfl⟩
instance tSize81:TSize Tryz.prog 81 1:=⟨by kernel_rfl⟩
instance tEl81:TEl Tryz.prog 81 85:=⟨by kernel_rfl⟩
instance tRo81:TRo Tryz.prog 81 85 3 32:=⟨by kernel_rfl⟩
instance tAg83:TAg Tryz.prog 83 true:=⟨by kernel_rfl⟩
instance tSize83:TSize Tryz.prog 83 2:=⟨by kernel_rfl⟩
instance tZe83:TZe Tryz.prog 83 [.string ByteArray.empty,.slice none 0 0]:=⟨by kernel_rfl⟩
instance tBy83:TBy Tryz.prog 83 40:=⟨by kernel_rfl⟩
instance tFl83_0:TFl Tryz.prog 83 0 0 9:=⟨by kernel_rfl⟩
instance tFl83_1:TFl Tryz.prog 83 1 1 81:=⟨by kernel_rfl⟩
instance tSt83:TSt Tryz.prog 83 [.string ByteArray.empty,.slice none 0 0] [(0,1),(1,1)]:=⟨by kernel_rfl⟩
instance tAg85:TAg Tryz.prog 85 true:=⟨by kernel_rfl⟩
instance tSize85:TSize Tryz.prog 85 3:=⟨by kernel_rfl⟩
instance tZe85:TZe Tryz.prog 85 [.string ByteArray.empty,.int .i64 0,.int .i64 0]:=⟨by kernel_rfl⟩
instance tFl85_0:TFl Tryz.prog 85 0 0 9:=⟨by kernel_rfl⟩
instance tFl85_1:TFl Tryz.prog 85 1 1 3:=⟨by kernel_rfl⟩
instance tFl85_2:TFl Tryz.prog 85 2 2 3:=⟨by kernel_rfl⟩
instance tSt85:TSt Tryz.prog 85 [.string ByteArray.empty,.int .i64 0,.int .i64 0] [(0,1),(1,1),(2,1)]:=⟨by kernel_rfl⟩
instance tAg104:TAg Tryz.prog 104 false:=⟨by kernel_rfl⟩
instance tSize104:TSize Tryz.prog 104 1:=⟨by kernel_rfl⟩
instance tAg105:TAg Tryz.prog 105 false:=⟨by kernel_rfl⟩
instance tSize105:TSize Tryz.prog 105 1:=⟨by kernel_rfl⟩
instance tEl105:TEl Tryz.prog 105 109:=⟨by kernel_rfl⟩
instance tRo105:TRo Tryz.prog 105 109 1 8:=⟨by kernel_rfl⟩
instance tFl107_0:TFl Tryz.prog 107 0 0 23:=⟨by kernel_rfl⟩
instance tFl107_1:TFl Tryz.prog 107 1 1 22:=⟨by kernel_rfl⟩
instance tFl107_2:TFl Tryz.prog 107 2 2 105:=⟨by kernel_rfl⟩
instance tFl107_3:TFl Tryz.prog 107 3 3 104:=⟨by kernel_rfl⟩
instance tSt107:TSt Tryz.prog 107 [.slice none 0 0,.slice none 0 0,.slice none 0 0,.map none] [(0,1),(1,1),(2,1),(3,1)]:=⟨by kernel_rfl⟩
instance tAg109:TAg Tryz.prog 109 false:=⟨by kernel_rfl⟩
instance tSize109:TSize Tryz.prog 109 1:=⟨by kernel_rfl⟩
instance tZe109:TZe Tryz.prog 109 [.pointer none]:=⟨by kernel_rfl⟩
instance tAg112:TAg Tryz.prog 112 false:=⟨by kernel_rfl⟩
instance tSize112:TSize Tryz.prog 112 1:=⟨by kernel_rfl⟩
instance tAg113:TAg Tryz.prog 113 false:=⟨by kernel_rfl⟩
instance tSize113:TSize Tryz.prog 113 1:=⟨by kernel_rfl⟩
instance tEl113:TEl Tryz.prog 113 155:=⟨by kernel_rfl⟩
instance tRo113:TRo Tryz.prog 113 155 1 8:=⟨by kernel_rfl⟩
instance tFl115_0:TFl Tryz.prog 115 0 0 22:=⟨by kernel_rfl⟩
instance tFl115_1:TFl Tryz.prog 115 1 1 112:=⟨by kernel_rfl⟩
instance tFl115_2:TFl Tryz.prog 115 2 2 113:=⟨by kernel_rfl⟩
instance tSt115:TSt Tryz.prog 115 [.slice none 0 0,.pointer none,.slice none 0 0] [(0,1),(1,1),(2,1)]:=⟨by kernel_rfl⟩
instance tEl123:TEl Tryz.prog 123 4:=⟨by kernel_rfl⟩
instance tEl130:TEl Tryz.prog 130 58:=⟨by kernel_rfl⟩
instance tEl132:TEl Tryz.prog 132 9:=⟨by kernel_rfl⟩
instance tAg155:TAg Tryz.prog 155 false:=⟨by kernel_rfl⟩
instance tSize155:TSize Tryz.prog 155 1:=⟨by kernel_rfl⟩
instance tZe155:TZe Tryz.prog 155 [.pointer none]:=⟨by kernel_rfl⟩
instance tAg160:TAg Tryz.prog 160 false:=⟨by kernel_rfl⟩
instance tSize160:TSize Tryz.prog 160 1:=⟨by kernel_rfl⟩
instance tFl162_0:TFl Tryz.prog 162 0 0 58:=⟨by kernel_rfl⟩
instance tFl162_1:TFl Tryz.prog 162 1 1 22:=⟨by kernel_rfl⟩
instance tFl162_2:TFl Tryz.prog 162 2 2 160:=⟨by kernel_rfl⟩
instance tSt162:TSt Tryz.prog 162 [.slice none 0 0,.slice none 0 0,.map none] [(0,1),(1,1),(2,1)]:=⟨by kernel_rfl⟩
instance tAg184:TAg Tryz.prog 184 false:=⟨by kernel_rfl⟩
instance tSize184:TSize Tryz.prog 184 1:=⟨by kernel_rfl⟩
instance tEl184:TEl Tryz.prog 184 22:=⟨by kernel_rfl⟩
instance tRo184:TRo Tryz.prog 184 22 1 24:=⟨by kernel_rfl⟩
instance tFl186_0:TFl Tryz.prog 186 0 0 184:=⟨by kernel_rfl⟩
instance tFl186_1:TFl Tryz.prog 186 1 1 22:=⟨by kernel_rfl⟩
instance tFl186_2:TFl Tryz.prog 186 2 2 160:=⟨by kernel_rfl⟩
instance tSt186:TSt Tryz.prog 186 [.slice none 0 0,.slice none 0 0,.map none] [(0,1),(1,1),(2,1)]:=⟨by kernel_rfl⟩
instance tAg215:TAg Tryz.prog 215 false:=⟨by kernel_rfl⟩
instance tSize215:TSize Tryz.prog 215 1:=⟨by kernel_rfl⟩
instance tZe215:TZe Tryz.prog 215 [.int .u64 0]:=⟨by kernel_rfl⟩
abbrev iA (n:Int):AV:=.prim (.int .i64 n)
abbrev bA (b:Bool):AV:=.prim (.bool b)
abbrev sA (l:List UInt8):AV:=.prim (strA l)
def fieldA (f:Field):AV:=.agg [sA f.name,iA f.bits,iA f.low]
abbrev fieldsA (o:Bool) (l:List Field):AV:=.lst o 85 3 (l.map fieldA)
def kindA (o:Bool) (k:Kind):AV:=.agg [sA k.name,fieldsA o k.fields]
abbrev kindsA (o o':Bool) (l:List Kind):AV:=.lst o 83 2 (l.map (kindA o'))
abbrev intsA (o:Bool) (l:List Int):AV:=.lst o 3 1 (l.map iA)
instance {f:Field}:Frz (fieldA f) (fieldA f):=⟨rfl⟩
instance {o:Bool} {k:Kind}:Frz (kindA o k) (kindA false k):=⟨by unfold kindA;exact Frz.h⟩
def compA (o:Bool) (c:Comp):AV:=.agg [iA c.kind,intsA o c.vals]
abbrev compsA (o o':Bool) (l:List Comp):AV:=.lst o 42 2 (l.map (compA o'))
def itemA (o:Bool) (x:Item):AV:=.agg [iA x.ent.n,iA x.ent.gen,compsA o o x.comps]
abbrev itemsA (o o':Bool) (l:List Item):AV:=.lst o 55 3 (l.map (itemA o'))
def wdA (o:Bool) (w:Wd):AV:=.agg [kindsA o o w.kinds,intsA o w.gens,itemsA o o w.items]
def entA (e:Ent):AV:=.agg [iA e.n,iA e.gen]
instance {e:Ent}:Frz (entA e) (entA e):=⟨rfl⟩
instance {o:Bool} {k:Comp}:Frz (compA o k) (compA false k):=⟨by unfold compA;exact Frz.h⟩
instance {o:Bool} {k:Item}:Frz (itemA o k) (itemA false k):=⟨by unfold itemA;exact Frz.h⟩
instance {o:Bool} {k:Wd}:Frz (wdA o k) (wdA false k):=⟨by unfold wdA;exact Frz.h⟩
theorem frzs_same {α:Type} (f:α → AV) (h:∀ a,(f a).frz = f a) (l:List α):AV.frzs (l.map f) = l.map f:=by
 rw [frzs_map,List.map_map]
 exact List.map_congr_left fun a _=>h a
theorem intsA_frz (o:Bool) (l:List Int):(intsA o l).frz = intsA false l:=by
 show AV.lst false _ _ (AV.frzs (l.map iA)) = _
 rw [frzs_same _ fun _=>rfl]
instance mapII:TMap Tryz.prog 160 3 3 (.int .i64 0):=⟨by kernel_rfl,by kernel_rfl,fun w=>by kernel_rfl,PlainV.int (by kernel_rfl) rfl⟩
abbrev stE (k:StK) (l:List (Int × Ent)):List Slot:=[(k.X,.row 162 3 [.agg [.sl k.V 0 l.length,.sl k.R 0 l.length,.mp k.M]]),(k.V,.row 32 2 (l.map fun e=>entA e.2)),(k.R,.row 3 1 (l.map fun e=>iA e.1)),(k.M,.ob (MapF Tryz.prog 3 3 (ixG (keysC l)) l.length))]
theorem stE_mk {X V R M n m c:Nat} {l:List (Int × Ent)} {vs rs:List AV} {g:Int → Option Value} (h1:n = l.length) (h2:m = l.length) (h3:vs = l.map fun e=>entA e.2) (h4:rs = l.map fun e=>iA e.1) (h5:g = ixG (keysC l)) (h6:c = l.length) :
  [(X,AO.row 162 3 [.agg [.sl V 0 n,.sl R 0 m,.mp M]]),(V,.row 32 2 vs),(R,.row 3 1 rs),(M,.ob (MapF Tryz.prog 3 3 g c))] = stE ⟨X,V,R,M⟩ l:=by
 subst h1 h2 h3 h4 h5 h6;rfl
theorem newE_sp:Spec Tryz.prog 89 [] [] fun r S'=>∃ k:StK,r = .ptr k.X 0 0 ∧ S' = stE k []:=by
 refine Spec.of (nt:=4) (res:=[.tmp 0]) Tryz.func89 rfl (by kernel_rfl) rfl rfl rfl fun Sf=>?_
 (repeat refine WF ?_);refine AWP.region ?_;(repeat (first | refine WO ?_ | refine All.i fun X=>?_ | refine AllY.i fun Y=>?_));refine AOps.nil ?_;(repeat refine WN ?_)
 (repeat first | refine AOps.nil ?_ | refine WF ?_)
 (repeat refine WF ?_);refine AWP.region ?_;(repeat (first | (refine AOps.gN ?_;first | (refine AOps.g_makeMap ?_;refine AOps.goMap fun M=>?_)) | refine WO ?_ | refine All.i fun X=>?_ | refine AllY.i fun Y=>?_));refine AOps.nil ?_;(repeat refine WN ?_)
 refine AWP.adoptIn (Y:=X) 32 2 .here (fun V=>.cons (.agg (.cons (.base .nil) (.cons .same (.cons .same .nil)))) .nil) fun V=>?_
 refine AWP.adoptIn (Y:=X) 3 1 (.next .here) (fun V=>.cons (.agg (.cons .same (.cons (.base .nil) (.cons .same .nil)))) .nil) fun R=>?_
 refine AWP.front M ?_;refine AWP.front R ?_;refine AWP.front V ?_;refine AWP.front X ?_
 (refine AWP.ret ?_;(repeat (first | refine inB_r ?_ | refine andThen_r ?_));refine retQ_r ?_)
 exact Ends.sp [.ptr X 0 0] (stE ⟨X,V,R,M⟩ []) ⟨⟨X,V,R,M⟩,rfl,rfl⟩
theorem cputE_sp (k:StK) (l:List (Int × Ent)) (hl:ColOK l) (n:Int) (v:Ent) (hn:0 ≤ n ∧ n < 256):Spec Tryz.prog 92 [.ptr k.X 0 0,iA n,entA v] (stE k l) fun r S'=>∃ q:Nat × Nat,r = iA 0 ∧ S' = stE ⟨k.X,q.1,q.2,k.M⟩ (stPut l n v):=by
 have hlen:=hl.len
 have hn1:decide (n < 0) = false:=decide_eq_false (by omega)
 have hn2:decide (n ≥ 256) = false:=decide_eq_false (by omega)
 have hI : -9223372036854775808 ≤ n ∧ n ≤ 9223372036854775807:=by omega
 by_cases hk:n ∈ keysC l
 ·obtain ⟨u,hu⟩:=idx_at hk
  have hi:=idx_lt hk
  rw [stPut_old hk]
  have hix:=ixG_mem hk
  have hke:=stPut_keys (v:=v) hk
  rw [stPut_old hk] at hke
  obtain ⟨i,hi2⟩:∃ i,(keysC l).idxOf n = i:=⟨_,rfl⟩
  rw [hi2] at hi hu hix hke ⊢
  have h1:(ixG (keysC l) n).getD (.int .i64 0) = .int .i64 (i:Nat):=by rw [hix];rfl
  have h2:(ixG (keysC l) n).isSome = true:=by rw [hix];rfl
  have hat:(l.map fun e=>entA e.2)[i]? = some (entA u):=by rw [List.getElem?_map,hu];rfl
  have hset:(l.map fun e=>entA e.2).set i (entA v) = (l.set i (n,v)).map fun e=>entA e.2:=by rw [List.map_set]
  have hrow:(l.map fun e=>iA e.1) = (l.set i (n,v)).map fun e=>iA e.1:=by
   have:=congrArg (List.map iA) hke
   rw [keysC,keysC,List.map_map,List.map_map] at this
   exact this.symm
  refine Spec.of (nt:=62) (res:=[.tmp 6]) Tryz.func92 rfl (by kernel_rfl) rfl rfl rfl fun Sf=>?_
  (repeat refine WF ?_);refine AWP.region ?_;(repeat (first | refine WO ?_ | refine All.i fun B0=>?_ | refine AllY.i fun Y=>?_));refine AOps.nil ?_;(repeat refine WN ?_)
  (repeat first | refine AOps.nil ?_ | refine WF ?_)
  (repeat refine WF ?_);refine AWP.region ?_;(repeat (first | refine WO ?_ | refine All.i fun X=>?_ | refine AllY.i fun Y=>?_));refine AOps.nil ?_;(repeat refine WN ?_)
  (repeat first | refine AOps.nil ?_ | refine WF ?_)
  refine AWP.cond_f rfl hn2 ?_
  (repeat first | refine AOps.nil ?_ | refine WF ?_)
  (repeat refine WF ?_);refine AWP.region ?_;(repeat (first | (refine AOps.gN ?_;first | refine AOps.go (h:=W.look2 _ _ h1 h2 hI rfl rfl (by exact At.f)) (k:=?_)) | refine WO ?_ | refine All.i fun X=>?_ | refine AllY.i fun Y=>?_));refine AOps.nil ?_;(repeat refine WN ?_)
  (repeat first | refine AOps.nil ?_ | refine WF ?_)
  (repeat refine WF ?_);refine AWP.region ?_;(repeat (first | refine WO ?_ | refine All.i fun X=>?_ | refine AllY.i fun Y=>?_));refine AOps.nil ?_;(repeat refine WN ?_)
  (repeat first | refine AOps.nil ?_ | refine WF ?_)
  refine AWP.cond_t rfl rfl ?_
  (repeat first | refine AOps.nil ?_ | refine WF ?_)
  (repeat refine WF ?_);refine AWP.region_run (by kernel_rfl) (by kernel_rfl) ?_;(repeat (first | (refine RGo.gN ?_;first | refine RGo.go (h:=W.idx rfl rfl (by exact At.f) rfl (by omega) (Nat.zero_add _)) (k:=?_)) | (refine RGo.gQ ?_;first | refine RGo.go (h:=W.idx rfl rfl (by exact At.f) rfl (by omega) (Nat.zero_add _)) (k:=?_)) | refine RK ?_ | refine RGo.nil (by kernel_rfl) ?_))
  (repeat first | refine AOps.nil ?_ | refine WF ?_)
  (repeat refine WF ?_);refine AWP.region ?_;(repeat (first | refine WO ?_ | refine All.i fun X=>?_ | refine AllY.i fun Y=>?_));refine AOps.nil ?_;(repeat refine WN ?_)
  (refine AWP.ret ?_;(repeat (first | refine inB_r ?_ | refine andThen_r ?_));refine retQ_r ?_)
  exact Ends.sp [iA 0] _ ⟨(k.V,k.R),rfl,stE_mk (n:=l.length) (m:=l.length) (c:=l.length) (by simp) (by simp) hset hrow (by rw [hke]) (by simp)⟩
 ·rw [stPut_new hk]
  have hix:=ixG_no hk
  have h1:(ixG (keysC l) n).getD (.int .i64 0) = .int .i64 0:=by rw [hix];rfl
  have h2:(ixG (keysC l) n).isSome = false:=by rw [hix];rfl
  have hkl:(keysC l).length = l.length:=List.length_map _
  have hkf:updG (ixG (keysC l)) n (.int .i64 (l.length:Nat)) = ixG (keysC (l ++ [(n,v)])):=by
   rw [← hkl,ixG_app hk,keysC,keysC,List.map_append];rfl
  have hsz:(if (ixG (keysC l) n).isSome then l.length else l.length + 1) = l.length + 1:=by rw [h2];rfl
  have hmx:l.length < maxLen:=by unfold maxLen;omega
  refine Spec.of (nt:=62) (res:=[.tmp 6]) Tryz.func92 rfl (by kernel_rfl) rfl rfl rfl fun Sf=>?_
  (repeat refine WF ?_);refine AWP.region ?_;(repeat (first | refine WO ?_ | refine All.i fun B0=>?_ | refine AllY.i fun Y=>?_));refine AOps.nil ?_;(repeat refine WN ?_)
  (repeat first | refine AOps.nil ?_ | refine WF ?_)
  (repeat refine WF ?_);refine AWP.region ?_;(repeat (first | refine WO ?_ | refine All.i fun X=>?_ | refine AllY.i fun Y=>?_));refine AOps.nil ?_;(repeat refine WN ?_)
  (repeat first | refine AOps.nil ?_ | refine WF ?_)
  refine AWP.cond_f rfl hn2 ?_
  (repeat first | refine AOps.nil ?_ | refine WF ?_)
  (repeat refine WF ?_);refine AWP.region ?_;(repeat (first | (refine AOps.gN ?_;first | refine AOps.go (h:=W.look2 _ _ h1 h2 hI rfl rfl (by exact At.f)) (k:=?_)) | refine WO ?_ | refine All.i fun X=>?_ | refine AllY.i fun Y=>?_));refine AOps.nil ?_;(repeat refine WN ?_)
  (repeat first | refine AOps.nil ?_ | refine WF ?_)
  (repeat refine WF ?_);refine AWP.region ?_;(repeat (first | refine WO ?_ | refine All.i fun X=>?_ | refine AllY.i fun Y=>?_));refine AOps.nil ?_;(repeat refine WN ?_)
  (repeat first | refine AOps.nil ?_ | refine WF ?_)
  refine AWP.cond_f rfl rfl ?_
  (repeat first | refine AOps.nil ?_ | refine WF ?_)
  (repeat refine WF ?_);refine AWP.region_run (by kernel_rfl) (by kernel_rfl) ?_;(repeat (first | (refine RGo.gN ?_;first | refine RGo.goS (h:=W.mapUpd (PlainV.int (by kernel_rfl) (i64_wf (by omega))) hI hmx rfl rfl rfl (by exact At.f)) (k:=?_)) | (refine RGo.gQ ?_;first | refine RGo.goS (h:=W.mapUpd (PlainV.int (by kernel_rfl) (i64_wf (by omega))) hI hmx rfl rfl rfl (by exact At.f)) (k:=?_)) | refine RK ?_ | refine RGo.nil (by kernel_rfl) ?_))
  rw [hkf,hsz]
  (repeat first | refine AOps.nil ?_ | refine WF ?_)
  refine AWP.rs fun A=>AWP.rs fun B=>?_
  (repeat refine WF ?_);refine AWP.region_run (by kernel_rfl) (by kernel_rfl) ?_;(repeat (first | (refine RGo.gN ?_;first | (refine RGo.g_lit ?_;refine RGo.goL (iA n) ?_) | (refine RGo.g_lit ?_;refine RGo.goL (entA v) ?_)) | (refine RGo.gQ ?_;first | (refine RGo.g_lit ?_;refine RGo.goL (iA n) ?_) | (refine RGo.g_lit ?_;refine RGo.goL (entA v) ?_)) | refine RK ?_ | refine RGo.nil (by kernel_rfl) ?_))
  (repeat first | refine AOps.nil ?_ | refine WF ?_)
  (repeat refine WF ?_);refine AWP.region ?_;(repeat (first | refine WO ?_ | refine All.i fun X=>?_ | refine AllY.i fun Y=>?_));refine AOps.nil ?_;(repeat refine WN ?_)
  refine AWP.front k.M ?_;refine AWP.front B ?_;refine AWP.front A ?_;refine AWP.front k.X ?_
  (refine AWP.ret ?_;(repeat (first | refine inB_r ?_ | refine andThen_r ?_));refine retQ_r ?_)
  exact Ends.sp [iA 0] _ ⟨(A,B),rfl,stE_mk (n:=l.length + 1) (m:=l.length + 1) (c:=l.length + 1) (by simp) (by simp) (by rw [List.map_append]) (by rw [List.map_append]) rfl (by simp)⟩
abbrev stS (k:StK) (l:List (Int × List Int)):List Slot:=[(k.X,.row 186 3 [.agg [.sl k.V 0 l.length,.sl k.R 0 l.length,.mp k.M]]),(k.V,.row 22 1 (l.map fun e=>intsA false e.2)),(k.R,.row 3 1 (l.map fun e=>iA e.1)),(k.M,.ob (MapF Tryz.prog 3 3 (ixG (keysC l)) l.length))]
theorem stS_mk {X V R M n m c:Nat} {l:List (Int × List Int)} {vs rs:List AV} {g:Int → Option Value} (h1:n = l.length) (h2:m = l.length) (h3:vs = l.map fun e=>intsA false e.2) (h4:rs = l.map fun e=>iA e.1) (h5:g = ixG (keysC l)) (h6:c = l.length) :
  [(X,AO.row 186 3 [.agg [.sl V 0 n,.sl R 0 m,.mp M]]),(V,.row 22 1 vs),(R,.row 3 1 rs),(M,.ob (MapF Tryz.prog 3 3 g c))] = stS ⟨X,V,R,M⟩ l:=by
 subst h1 h2 h3 h4 h5 h6;rfl
theorem newS_sp:Spec Tryz.prog 90 [] [] fun r S'=>∃ k:StK,r = .ptr k.X 0 0 ∧ S' = stS k []:=by
 refine Spec.of (nt:=4) (res:=[.tmp 0]) Tryz.func90 rfl (by kernel_rfl) rfl rfl rfl fun Sf=>?_
 (repeat refine WF ?_);refine AWP.region ?_;(repeat (first | refine WO ?_ | refine All.i fun X=>?_ | refine AllY.i fun Y=>?_));refine AOps.nil ?_;(repeat refine WN ?_)
 (repeat first | refine AOps.nil ?_ | refine WF ?_)
 (repeat refine WF ?_);refine AWP.region ?_;(repeat (first | (refine AOps.gN ?_;first | (refine AOps.g_makeMap ?_;refine AOps.goMap fun M=>?_)) | refine WO ?_ | refine All.i fun X=>?_ | refine AllY.i fun Y=>?_));refine AOps.nil ?_;(repeat refine WN ?_)
 refine AWP.adoptIn (Y:=X) 22 1 .here (fun V=>.cons (.agg (.cons (.base .nil) (.cons .same (.cons .same .nil)))) .nil) fun V=>?_
 refine AWP.adoptIn (Y:=X) 3 1 (.next .here) (fun V=>.cons (.agg (.cons .same (.cons (.base .nil) (.cons .same .nil)))) .nil) fun R=>?_
 refine AWP.front M ?_;refine AWP.front R ?_;refine AWP.front V ?_;refine AWP.front X ?_
 (refine AWP.ret ?_;(repeat (first | refine inB_r ?_ | refine andThen_r ?_));refine retQ_r ?_)
 exact Ends.sp [.ptr X 0 0] (stS ⟨X,V,R,M⟩ []) ⟨⟨X,V,R,M⟩,rfl,rfl⟩
theorem getS_yes (k:StK) (l:List (Int × List Int)) (hl:ColOK l) (n:Int) (hn:I64 n) (v:List Int) (hg:stGet l n = some v):Spec Tryz.prog 96 [.ptr k.X 0 0,iA n] (stS k l) fun r S'=>r = .tup [intsA false v,bA true] ∧ S' = stS k l:=by
 have hlen:=hl.len
 have hk:n ∈ keysC l:=Classical.byContradiction fun h=>by rw [stGet_none h] at hg;cases hg
 obtain ⟨u,hv⟩:=idx_at hk
 have hi:=idx_lt hk
 have hg2:stGet l n = some u:=by unfold stGet;rw [hv];rfl
 rw [hg] at hg2
 injection hg2 with hg2
 subst hg2
 have hat:(l.map fun e=>intsA false e.2)[(keysC l).idxOf n]? = some (intsA false v):=by rw [List.getElem?_map,hv];rfl
 have hix:=ixG_mem hk
 obtain ⟨i,hi2⟩:∃ i,(keysC l).idxOf n = i:=⟨_,rfl⟩
 rw [hi2] at hi hat hix
 have h1:(ixG (keysC l) n).getD (.int .i64 0) = .int .i64 (i:Nat):=by rw [hix];rfl
 have h2:(ixG (keysC l) n).isSome = true:=by rw [hix];rfl
 refine Spec.of (nt:=28) (res:=[.tmp 4,.tmp 5]) Tryz.func96 rfl (by kernel_rfl) rfl rfl rfl fun Sf=>?_
 (repeat refine WF ?_);refine AWP.region ?_;(repeat (first | refine WO ?_ | refine All.i fun X=>?_ | refine AllY.i fun Y=>?_));refine AOps.nil ?_;(repeat refine WN ?_)
 (repeat first | refine AOps.nil ?_ | refine WF ?_)
 (repeat refine WF ?_);refine AWP.region ?_;(repeat (first | (refine AOps.gN ?_;first | refine AOps.go (h:=W.look2 _ _ h1 h2 hn rfl rfl (by exact At.f)) (k:=?_)) | refine WO ?_ | refine All.i fun X=>?_ | refine AllY.i fun Y=>?_));refine AOps.nil ?_;(repeat refine WN ?_)
 (repeat first | refine AOps.nil ?_ | refine WF ?_)
 (repeat refine WF ?_);refine AWP.region ?_;(repeat (first | refine WO ?_ | refine All.i fun X=>?_ | refine AllY.i fun Y=>?_));refine AOps.nil ?_;(repeat refine WN ?_)
 (repeat first | refine AOps.nil ?_ | refine WF ?_)
 refine AWP.cond_f rfl rfl ?_
 (repeat first | refine AOps.nil ?_ | refine WF ?_)
 (repeat refine WF ?_);refine AWP.region ?_;(repeat (first | (refine AOps.gN ?_;first | refine AOps.go (h:=W.idx rfl rfl (by exact At.f) rfl (by omega) (Nat.zero_add _)) (k:=?_)) | refine WO ?_ | refine All.i fun X=>?_ | refine AllY.i fun Y=>?_));refine AOps.nil ?_;(repeat refine WN ?_)
 (refine AWP.ret ?_;(repeat (first | refine inB_r ?_ | refine andThen_r ?_));refine retQ_r ?_)
 exact Ends.sp [intsA false v,bA true] (stS k l) ⟨rfl,rfl⟩
theorem cputS_sp (k:StK) (l:List (Int × List Int)) (hl:ColOK l) (n:Int) (v:List Int) (hn:0 ≤ n ∧ n < 256):Spec Tryz.prog 93 [.ptr k.X 0 0,iA n,intsA false v] (stS k l) fun r S'=>∃ q:Nat × Nat,r = iA 0 ∧ S' = stS ⟨k.X,q.1,q.2,k.M⟩ (stPut l n v):=by
 have hlen:=hl.len
 have hn1:decide (n < 0) = false:=decide_eq_false (by omega)
 have hn2:decide (n ≥ 256) = false:=decide_eq_false (by omega)
 have hI : -9223372036854775808 ≤ n ∧ n ≤ 9223372036854775807:=by omega
 by_cases hk:n ∈ keysC l
 ·obtain ⟨u,hu⟩:=idx_at hk
  have hi:=idx_lt hk
  rw [stPut_old hk]
  have hix:=ixG_mem hk
  have hke:=stPut_keys (v:=v) hk
  rw [stPut_old hk] at hke
  obtain ⟨i,hi2⟩:∃ i,(keysC l).idxOf n = i:=⟨_,rfl⟩
  rw [hi2] at hi hu hix hke ⊢
  have h1:(ixG (keysC l) n).getD (.int .i64 0) = .int .i64 (i:Nat):=by rw [hix];rfl
  have h2:(ixG (keysC l) n).isSome = true:=by rw [hix];rfl
  have hat:(l.map fun e=>intsA false e.2)[i]? = some (intsA false u):=by rw [List.getElem?_map,hu];rfl
  have hset:(l.map fun e=>intsA false e.2).set i (intsA false v) = (l.set i (n,v)).map fun e=>intsA false e.2:=by rw [List.map_set]
  have hrow:(l.map fun e=>iA e.1) = (l.set i (n,v)).map fun e=>iA e.1:=by
   have:=congrArg (List.map iA) hke
   rw [keysC,keysC,List.map_map,List.map_map] at this
   exact this.symm
  refine Spec.of (nt:=62) (res:=[.tmp 6]) Tryz.func93 rfl (by kernel_rfl) rfl rfl rfl fun Sf=>?_
  (repeat refine WF ?_);refine AWP.region ?_;(repeat (first | refine WO ?_ | refine All.i fun X=>?_ | refine AllY.i fun Y=>?_));refine AOps.nil ?_;(repeat refine WN ?_)
  (repeat first | refine AOps.nil ?_ | refine WF ?_)
  (repeat refine WF ?_);refine AWP.region ?_;(repeat (first | refine WO ?_ | refine All.i fun X=>?_ | refine AllY.i fun Y=>?_));refine AOps.nil ?_;(repeat refine WN ?_)
  (repeat first | refine AOps.nil ?_ | refine WF ?_)
  refine AWP.cond_f rfl hn2 ?_
  (repeat first | refine AOps.nil ?_ | refine WF ?_)
  (repeat refine WF ?_);refine AWP.region ?_;(repeat (first | (refine AOps.gN ?_;first | refine AOps.go (h:=W.look2 _ _ h1 h2 hI rfl rfl (by exact At.f)) (k:=?_)) | refine WO ?_ | refine All.i fun X=>?_ | refine AllY.i fun Y=>?_));refine AOps.nil ?_;(repeat refine WN ?_)
  (repeat first | refine AOps.nil ?_ | refine WF ?_)
  (repeat refine WF ?_);refine AWP.region ?_;(repeat (first | refine WO ?_ | refine All.i fun X=>?_ | refine AllY.i fun Y=>?_));refine AOps.nil ?_;(repeat refine WN ?_)
  (repeat first | refine AOps.nil ?_ | refine WF ?_)
  refine AWP.cond_t rfl rfl ?_
  (repeat first | refine AOps.nil ?_ | refine WF ?_)
  (repeat refine WF ?_);refine AWP.region ?_;(repeat (first | (refine AOps.gN ?_;first | refine AOps.go (h:=W.idx rfl rfl (by exact At.f) rfl (by omega) (Nat.zero_add _)) (k:=?_)) | refine WO ?_ | refine All.i fun X=>?_ | refine AllY.i fun Y=>?_));refine AOps.nil ?_;(repeat refine WN ?_)
  (repeat first | refine AOps.nil ?_ | refine WF ?_)
  (repeat refine WF ?_);refine AWP.region ?_;(repeat (first | refine WO ?_ | refine All.i fun X=>?_ | refine AllY.i fun Y=>?_));refine AOps.nil ?_;(repeat refine WN ?_)
  (refine AWP.ret ?_;(repeat (first | refine inB_r ?_ | refine andThen_r ?_));refine retQ_r ?_)
  exact Ends.sp [iA 0] _ ⟨(k.V,k.R),rfl,stS_mk (n:=l.length) (m:=l.length) (c:=l.length) (by simp) (by simp) hset hrow (by rw [hke]) (by simp)⟩
 ·rw [stPut_new hk]
  have hix:=ixG_no hk
  have h1:(ixG (keysC l) n).getD (.int .i64 0) = .int .i64 0:=by rw [hix];rfl
  have h2:(ixG (keysC l) n).isSome = false:=by rw [hix];rfl
  have hkl:(keysC l).length = l.length:=List.length_map _
  have hkf:updG (ixG (keysC l)) n (.int .i64 (l.length:Nat)) = ixG (keysC (l ++ [(n,v)])):=by
   rw [← hkl,ixG_app hk,keysC,keysC,List.map_append];rfl
  have hsz:(if (ixG (keysC l) n).isSome then l.length else l.length + 1) = l.length + 1:=by rw [h2];rfl
  have hmx:l.length < maxLen:=by unfold maxLen;omega
  refine Spec.of (nt:=62) (res:=[.tmp 6]) Tryz.func93 rfl (by kernel_rfl) rfl rfl rfl fun Sf=>?_
  (repeat refine WF ?_);refine AWP.region ?_;(repeat (first | refine WO ?_ | refine All.i fun X=>?_ | refine AllY.i fun Y=>?_));refine AOps.nil ?_;(repeat refine WN ?_)
  (repeat first | refine AOps.nil ?_ | refine WF ?_)
  (repeat refine WF ?_);refine AWP.region ?_;(repeat (first | refine WO ?_ | refine All.i fun X=>?_ | refine AllY.i fun Y=>?_));refine AOps.nil ?_;(repeat refine WN ?_)
  (repeat first | refine AOps.nil ?_ | refine WF ?_)
  refine AWP.cond_f rfl hn2 ?_
  (repeat first | refine AOps.nil ?_ | refine WF ?_)
  (repeat refine WF ?_);refine AWP.region ?_;(repeat (first | (refine AOps.gN ?_;first | refine AOps.go (h:=W.look2 _ _ h1 h2 hI rfl rfl (by exact At.f)) (k:=?_)) | refine WO ?_ | refine All.i fun X=>?_ | refine AllY.i fun Y=>?_));refine AOps.nil ?_;(repeat refine WN ?_)
  (repeat first | refine AOps.nil ?_ | refine WF ?_)
  (repeat refine WF ?_);refine AWP.region ?_;(repeat (first | refine WO ?_ | refine All.i fun X=>?_ | refine AllY.i fun Y=>?_));refine AOps.nil ?_;(repeat refine WN ?_)
  (repeat first | refine AOps.nil ?_ | refine WF ?_)
  refine AWP.cond_f rfl rfl ?_
  (repeat first | refine AOps.nil ?_ | refine WF ?_)
  (repeat refine WF ?_);refine AWP.region_run (by kernel_rfl) (by kernel_rfl) ?_;(repeat (first | (refine RGo.gN ?_;first | refine RGo.goS (h:=W.mapUpd (PlainV.int (by kernel_rfl) (i64_wf (by omega))) hI hmx rfl rfl rfl (by exact At.f)) (k:=?_)) | (refine RGo.gQ ?_;first | refine RGo.goS (h:=W.mapUpd (PlainV.int (by kernel_rfl) (i64_wf (by omega))) hI hmx rfl rfl rfl (by exact At.f)) (k:=?_)) | refine RK ?_ | refine RGo.nil (by kernel_rfl) ?_))
  rw [hkf,hsz]
  (repeat first | refine AOps.nil ?_ | refine WF ?_)
  refine AWP.rs fun A=>AWP.rs fun B=>?_
  (repeat refine WF ?_);refine AWP.region_run (by kernel_rfl) (by kernel_rfl) ?_;(repeat (first | (refine RGo.gN ?_;first | (refine RGo.g_lit ?_;refine RGo.goL (iA n) ?_) | (refine RGo.g_lit ?_;refine RGo.goL (intsA false v) ?_)) | (refine RGo.gQ ?_;first | (refine RGo.g_lit ?_;refine RGo.goL (iA n) ?_) | (refine RGo.g_lit ?_;refine RGo.goL (intsA false v) ?_)) | refine RK ?_ | refine RGo.nil (by kernel_rfl) ?_))
  (repeat first | refine AOps.nil ?_ | refine WF ?_)
  (repeat refine WF ?_);refine AWP.region ?_;(repeat (first | refine WO ?_ | refine All.i fun X=>?_ | refine AllY.i fun Y=>?_));refine AOps.nil ?_;(repeat refine WN ?_)
  refine AWP.front k.M ?_;refine AWP.front B ?_;refine AWP.front A ?_;refine AWP.front k.X ?_
  (refine AWP.ret ?_;(repeat (first | refine inB_r ?_ | refine andThen_r ?_));refine retQ_r ?_)
  exact Ends.sp [iA 0] _ ⟨(A,B),rfl,stS_mk (n:=l.length + 1) (m:=l.length + 1) (c:=l.length + 1) (by simp) (by simp) (by rw [List.map_append]) (by rw [List.map_append]) rfl (by simp)⟩
theorem isNaN_ps (a:Int):PS Tryz.prog 78 [iA a] (bA false):=by
 refine Spec.of (nt:=6) (res:=[.tmp 2]) Tryz.func78 rfl (by kernel_rfl) rfl rfl rfl fun Sf=>?_
 (repeat (first | refine WK ?_ | refine All.i fun X=>?_ | refine AllY.i fun Y=>?_))
 (refine AWP.ret ?_;(repeat (first | refine inB_r ?_ | refine andThen_r ?_));refine retQ_r ?_);refine Ends.ps ?_
 have:decide (a ≠ a) = false:=decide_eq_false (by simp)
 rw [this]
def cmpI (a b:Int):Int:=if a < b then -1 else if b < a then 1 else 0
theorem compare_ps (a b:Int):PS Tryz.prog 44 [iA a,iA b] (iA (cmpI a b)):=by
 refine Spec.of (nt:=20) (res:=[.tmp 4]) Tryz.func44 rfl (by kernel_rfl) rfl rfl rfl fun Sf=>?_
 (repeat (first | (refine AOps.gN ?_;first | (refine AOps.g_callf ?_;first | refine AOps.c1 (h:=(isNaN_ps a)) (k:=?_) | refine AOps.c1 (h:=(isNaN_ps b)) (k:=?_))) | refine WK ?_ | refine All.i fun X=>?_ | refine AllY.i fun Y=>?_))
 refine AWP.cond_f rfl rfl ?_
 (repeat (first | refine WK ?_ | refine All.i fun X=>?_ | refine AllY.i fun Y=>?_))
 refine AWP.cond_f rfl rfl ?_
 (repeat (first | refine WK ?_ | refine All.i fun X=>?_ | refine AllY.i fun Y=>?_))
 refine AWP.cond rfl (fun h=>?_) (fun h=>?_)
 ·have h:a < b:=by simpa using h
  (repeat (first | refine WK ?_ | refine All.i fun X=>?_ | refine AllY.i fun Y=>?_))
  (refine AWP.ret ?_;(repeat (first | refine inB_r ?_ | refine andThen_r ?_));refine retQ_r ?_);refine Ends.ps ?_
  rw [cmpI,if_pos h]
 ·have h:¬ a < b:=by simpa using h
  (repeat (first | refine WK ?_ | refine All.i fun X=>?_ | refine AllY.i fun Y=>?_))
  refine AWP.cond rfl (fun h2=>?_) (fun h2=>?_)
  ·have h2:b < a:=by simpa using h2
   (repeat (first | refine WK ?_ | refine All.i fun X=>?_ | refine AllY.i fun Y=>?_))
   (refine AWP.ret ?_;(repeat (first | refine inB_r ?_ | refine andThen_r ?_));refine retQ_r ?_);refine Ends.ps ?_
   rw [cmpI,if_neg h,if_pos h2]
  ·have h2:¬ b < a:=by simpa using h2
   (repeat (first | refine WK ?_ | refine All.i fun X=>?_ | refine AllY.i fun Y=>?_))
   (refine AWP.ret ?_;(repeat (first | refine inB_r ?_ | refine andThen_r ?_));refine retQ_r ?_);refine Ends.ps ?_
   rw [cmpI,if_neg h,if_neg h2]
def cmpL:List Int → List Int → Int
 | [],[]=>0
 | [],_ :: _=>-1
 | _ :: _,[]=>1
 | x :: a,y :: b=>if cmpI x y ≠ 0 then cmpI x y else cmpL a b
theorem cmpL_at {a b:List Int} {i:Nat} (ha:i < a.length) (hb:i < b.length):cmpL (a.drop i) (b.drop i) = if cmpI a[i] b[i] ≠ 0 then cmpI a[i] b[i] else cmpL (a.drop (i + 1)) (b.drop (i + 1)):=by
 rw [List.drop_eq_getElem_cons ha,List.drop_eq_getElem_cons hb,cmpL]
theorem compareL_ps (a b:List Int) (ha:a.length ≤ 1099511627776):PS Tryz.prog 88 [intsA false a,intsA false b] (iA (cmpL a b)):=by
 have ham:(a.map iA).length = a.length:=List.length_map _
 have hbm:(b.map iA).length = b.length:=List.length_map _
 refine Spec.of (nt:=36) (res:=[.tmp 4]) Tryz.func88 rfl (by kernel_rfl) rfl rfl rfl fun Sf=>?_
 (repeat (first | refine WK ?_ | refine All.i fun X=>?_ | refine AllY.i fun Y=>?_))
 refine AWP.lp (fun (i:Nat)=>⟨[(0,intsA false a),(1,intsA false b),(9,intsA false a),(10,iA (a.map iA).length),(11,iA i)],Sf⟩) (fun i=>i ≤ a.length ∧ i ≤ b.length ∧ cmpL a b = cmpL (a.drop i) (b.drop i)) (fun i=>a.length - i) 0 ⟨by omega,by omega,rfl⟩ ?_
 rintro i ⟨hi,hib,hc⟩
 (repeat (first | refine WK ?_ | refine All.i fun X=>?_ | refine AllY.i fun Y=>?_))
 refine AWP.cond rfl (fun h=>?_) (fun h=>?_)
 ·have h:i < a.length:=by rw [decide_eq_true_eq,ham] at h;omega
  have hat:(a.map iA)[i]? = some (iA a[i]):=map_at _ h
  obtain ⟨x,hx⟩:∃ x,a[i] = x:=⟨_,rfl⟩
  rw [hx] at hat
  have hil:i < (a.map iA).length:=by omega
  (repeat (first | refine WK ?_ | refine All.i fun X=>?_ | refine AllY.i fun Y=>?_))
  refine AWP.cond rfl (fun h2=>?_) (fun h2=>?_)
  ·have h2:i = b.length:=by rw [decide_eq_true_eq,hbm] at h2;omega
   (repeat (first | refine WK ?_ | refine All.i fun X=>?_ | refine AllY.i fun Y=>?_))
   (refine AWP.ret ?_;(repeat (first | refine inB_r ?_ | refine andThen_r ?_));refine retQ_r ?_);refine Ends.ps ?_
   have hbn:b.drop i = []:=List.drop_eq_nil_of_le (by omega)
   rw [hc,hbn,List.drop_eq_getElem_cons h]
   rfl
  ·have h2:i < b.length:=by rw [decide_eq_false_iff_not,hbm] at h2;omega
   have hat2:(b.map iA)[i]? = some (iA b[i]):=map_at _ h2
   have hil2:i < (b.map iA).length:=by omega
   rw [cmpL_at h h2] at hc
   obtain ⟨y,hy⟩:∃ y,b[i] = y:=⟨_,rfl⟩
   rw [hx,hy] at hc
   rw [hy] at hat2
   have hcm:=compare_ps x y
   obtain ⟨z,hz⟩:∃ z,cmpI x y = z:=⟨_,rfl⟩
   rw [hz] at hcm hc
   (repeat (first | (refine AOps.gN ?_;first | (refine AOps.g_callf ?_;first | refine AOps.c2 (h:=(hcm ..)) (k:=?_))) | refine WK ?_ | refine All.i fun X=>?_ | refine AllY.i fun Y=>?_))
   refine AWP.cond rfl (fun h3=>?_) (fun h3=>?_)
   ·have h3:z ≠ 0:=by simpa using h3
    (repeat (first | refine WK ?_ | refine All.i fun X=>?_ | refine AllY.i fun Y=>?_))
    (refine AWP.ret ?_;(repeat (first | refine inB_r ?_ | refine andThen_r ?_));refine retQ_r ?_);refine Ends.ps ?_
    rw [hc,if_pos h3]
   ·have h3:z = 0:=by simpa using h3
    rw [if_neg (by simp [h3])] at hc
    (repeat (first | refine WK ?_ | refine All.i fun X=>?_ | refine AllY.i fun Y=>?_))
    exact lp_next (i + 1) ⟨by omega,by omega,hc⟩ (by omega)
 ·have h:i = a.length:=by rw [decide_eq_false_iff_not,ham] at h;omega
  subst h
  rw [List.drop_length] at hc
  (repeat (first | refine WK ?_ | refine All.i fun X=>?_ | refine AllY.i fun Y=>?_))
  refine AWP.cond rfl (fun h2=>?_) (fun h2=>?_)
  ·have h2:a.length < b.length:=by rw [decide_eq_true_eq,ham,hbm] at h2;omega
   (repeat (first | refine WK ?_ | refine All.i fun X=>?_ | refine AllY.i fun Y=>?_))
   (refine AWP.ret ?_;(repeat (first | refine inB_r ?_ | refine andThen_r ?_));refine retQ_r ?_);refine Ends.ps ?_
   rw [hc,List.drop_eq_getElem_cons h2]
   rfl
  ·have h2:a.length = b.length:=by rw [decide_eq_false_iff_not,ham,hbm] at h2;omega
   (repeat (first | refine WK ?_ | refine All.i fun X=>?_ | refine AllY.i fun Y=>?_))
   (refine AWP.ret ?_;(repeat (first | refine inB_r ?_ | refine andThen_r ?_));refine retQ_r ?_);refine Ends.ps ?_
   rw [hc,List.drop_eq_nil_of_le (by omega)]
   rfl
def fillL {α:Type} (f:α → AV) (z:AV) (l:List α) (i:Nat):List AV:=(l.take i).map f ++ List.replicate (l.length - i) z
theorem fillL_len {α:Type} (f:α → AV) (z:AV) (l:List α) {i:Nat} (h:i ≤ l.length):(fillL f z l i).length = l.length:=by
 unfold fillL
 rw [List.length_append,List.length_map,List.length_take,List.length_replicate]
 omega
theorem fillL_zero {α:Type} (f:α → AV) (z:AV) (l:List α):fillL f z l 0 = List.replicate l.length z:=by unfold fillL;simp
theorem fillL_all {α:Type} (f:α → AV) (z:AV) (l:List α):fillL f z l l.length = l.map f:=by unfold fillL;simp
theorem fillL_at {α:Type} (f:α → AV) (z:AV) (l:List α) {i:Nat} (h:i < l.length):(fillL f z l i)[i]? = some z:=by
 unfold fillL
 have hl:((l.take i).map f).length = i:=by rw [List.length_map,List.length_take];omega
 rw [List.getElem?_append_right (by omega),hl,Nat.sub_self,List.getElem?_replicate,if_pos (by omega)]
theorem fillL_set {α:Type} (f:α → AV) (z:AV) (l:List α) {i:Nat} (h:i < l.length):(fillL f z l i).set i (f l[i]) = fillL f z l (i + 1):=by
 unfold fillL
 have hl:((l.take i).map f).length = i:=by rw [List.length_map,List.length_take];omega
 rw [List.set_append_right _ _ (by omega),hl,Nat.sub_self,show l.length - i = (l.length - (i + 1)) + 1 by omega,List.replicate_succ,List.set_cons_zero,List.take_succ_eq_append_getElem h,List.map_append,List.append_assoc]
 rfl
theorem kindsOf_ps (l:List Comp) (hl:l.length ≤ 1099511627776):PS Tryz.prog 85 [compsA false false l] (intsA true (l.map (·.kind))):=by
 have hlm:(l.map (compA false)).length = l.length:=List.length_map _
 refine Spec.of (nt:=23) (res:=[.tmp 2]) Tryz.func85 rfl (by kernel_rfl) rfl rfl rfl fun Sf=>?_
 (repeat refine WF ?_);refine AWP.region ?_;(repeat (first | refine WO ?_ | refine All.i fun X=>?_ | refine AllY.i fun Y=>?_));refine AOps.nil ?_;(repeat refine WN ?_)
 (repeat first | refine AOps.nil ?_ | refine WF ?_)
 (repeat refine WF ?_);refine AWP.region ?_;(repeat (first | (refine AOps.gN ?_;first | (refine AOps.g_make ?_;refine AOps.goM (iA 0) fun K=>?_)) | refine WO ?_ | refine All.i fun K=>?_ | refine AllY.i fun Y=>?_));refine AOps.nil ?_;(repeat refine WN ?_)
 rw [hlm,← fillL_zero (fun c:Comp=>iA c.kind)]
 (repeat first | refine AOps.nil ?_ | refine WF ?_)
 (repeat refine WF ?_);refine AWP.region ?_;(repeat (first | refine WO ?_ | refine All.i fun X=>?_ | refine AllY.i fun Y=>?_));refine AOps.nil ?_;(repeat refine WN ?_)
 (repeat first | refine AOps.nil ?_ | refine WF ?_)
 refine AWP.lp (fun (i:Nat)=>⟨[(3,.sl K 0 l.length),(9,compsA false false l),(10,iA (l.map (compA false)).length),(11,iA i)],(K,.row 3 1 (fillL (fun c:Comp=>iA c.kind) (iA 0) l i)) :: Sf⟩) (fun i=>i ≤ l.length) (fun i=>l.length - i) 0 (by omega) ?_
 rintro i hi
 have hfl:=fillL_len (fun c:Comp=>iA c.kind) (iA 0) l hi
 (repeat refine WF ?_);refine AWP.region ?_;(repeat (first | refine WO ?_ | refine All.i fun X=>?_ | refine AllY.i fun Y=>?_));refine AOps.nil ?_;(repeat refine WN ?_)
 (repeat first | refine AOps.nil ?_ | refine WF ?_)
 refine AWP.cond rfl (fun h=>?_) (fun h=>?_)
 ·have h:i < l.length:=by rw [decide_eq_true_eq,hlm] at h;omega
  have hat:(l.map (compA false))[i]? = some (compA false l[i]):=map_at _ h
  have hil:i < (l.map (compA false)).length:=by omega
  have hfa:=fillL_at (fun c:Comp=>iA c.kind) (iA 0) l h
  have hfs:=fillL_set (fun c:Comp=>iA c.kind) (iA 0) l h
  obtain ⟨⟨ck,cv⟩,hc⟩:∃ c,l[i] = c:=⟨_,rfl⟩
  rw [hc] at hat hfs
  (repeat first | refine AOps.nil ?_ | refine WF ?_)
  (repeat refine WF ?_);refine AWP.region ?_;(repeat (first | refine WO ?_ | refine All.i fun C=>?_ | refine AllY.i fun Y=>?_));refine AOps.nil ?_;(repeat refine WN ?_)
  (repeat first | refine AOps.nil ?_ | refine WF ?_)
  (repeat refine WF ?_);refine AWP.region ?_;(repeat (first | (refine AOps.gN ?_;first | refine AOps.go (h:=W.idx rfl rfl (by exact At.f) rfl (by omega) (Nat.zero_add _)) (k:=?_)) | refine WO ?_ | refine All.i fun X=>?_ | refine AllY.i fun Y=>?_));refine AOps.nil ?_;(repeat refine WN ?_)
  rw [hfs]
  (repeat first | refine AOps.nil ?_ | refine WF ?_)
  (repeat refine WF ?_);refine AWP.region ?_;(repeat (first | refine WO ?_ | refine All.i fun X=>?_ | refine AllY.i fun Y=>?_));refine AOps.nil ?_;(repeat refine WN ?_)
  exact lp_next (i + 1) (by omega)
 ·have h:i = l.length:=by rw [decide_eq_false_iff_not,hlm] at h;omega
  subst h
  rw [fillL_all]
  (repeat first | refine AOps.nil ?_ | refine WF ?_)
  (repeat refine WF ?_);refine AWP.region ?_;(repeat (first | refine WO ?_ | refine All.i fun X=>?_ | refine AllY.i fun Y=>?_));refine AOps.nil ?_;(repeat refine WN ?_)
  (refine AWP.ret ?_;(repeat (first | refine inB_r ?_ | refine andThen_r ?_));refine retQ_r ?_)
  exact ⟨[.sl K 0 l.length],[intsA true (l.map (·.kind))],_,[],.cons (.tmp rfl) rfl .nil,.cons (.cell (by unfold intsA;rw [show (l.map (·.kind)).map iA = l.map (fun c:Comp=>iA c.kind) from List.map_map];exact .sl (p:=0) .here (by simp))) .nil,by exact Sub.f,rfl,rfl⟩
def MonoL {α:Type} (g:α → Int) (l:List α):Prop:=∀ (a b:Nat) (x y:α),a ≤ b → l[a]? = some x → l[b]? = some y → g y < 0 → g x < 0
def Spl {α:Type} (g:α → Int) (l:List α) (i j:Nat):Prop:=(∀ (k:Nat) (x:α),k < i → l[k]? = some x → g x < 0) ∧ ∀ (k:Nat) (x:α),j ≤ k → l[k]? = some x → ¬ g x < 0
structure Found {α:Type} (g:α → Int) (l:List α) (r:Nat × Bool):Prop where
 le:r.1 ≤ l.length
 eq:r.2 = true ↔ ∃ x,l[r.1]? = some x ∧ g x = 0
 mono:MonoL g l → Spl g l r.1 r.1
theorem Spl.lo {α:Type} {g:α → Int} {l:List α} {i j m:Nat} {y:α} (hM:MonoL g l) (h:Spl g l i j) (hy:l[m]? = some y) (hg:g y < 0):Spl g l (m + 1) j :=
 ⟨fun k x hk hx=>hM k m x y (by omega) hx hy hg,h.2⟩
theorem Spl.hi {α:Type} {g:α → Int} {l:List α} {i j m:Nat} {y:α} (hM:MonoL g l) (h:Spl g l i j) (hy:l[m]? = some y) (hg:¬ g y < 0):Spl g l i m :=
 ⟨h.1,fun k x hk hx hx0=>hg (hM m k y x hk hy hx hx0)⟩
abbrev ptrs {α:Type} (px:α → Nat) (l:List α):List AV:=l.map fun x=>.ptr (px x) 0 0
theorem searchQ_sp {α:Type} (Tb:Nat) (l:List α) (px:α → Nat) (R:List Slot) (ks:List Int) (f:FuncId) (g:α → Int) (hl:l.length ≤ 4611686018427387904) (hf:∀ x ∈ l,Spec Tryz.prog f [.ptr (px x) 0 0,intsA false ks] R fun r S'=>r = iA (g x) ∧ S' = R) :
  Spec Tryz.prog 86 [.sl Tb 0 l.length,intsA false ks,.fn f []] ((Tb,.row 109 1 (ptrs px l)) :: R) fun r S'=>∃ b,Found g l b ∧ r = .tup [iA b.1,bA b.2] ∧ S' = (Tb,.row 109 1 (ptrs px l)) :: R:=by
 refine Spec.of (nt:=49) (res:=[.tmp 6,.tmp 7]) Tryz.func86 rfl (by kernel_rfl) rfl rfl rfl fun Sf=>?_
 have hlm:(ptrs px l).length = l.length:=List.length_map _
 (repeat (first | refine WK ?_ | refine All.i fun X=>?_ | refine AllY.i fun Y=>?_))
 refine AWP.lp2 (fun (i j:Nat)=>⟨[(0,.sl Tb 0 l.length),(1,intsA false ks),(2,.fn f []),(8,iA l.length),(9,iA i),(10,iA j)],(Tb,.row 109 1 (ptrs px l)) :: (R ++ Sf)⟩) (fun i j=>i ≤ j ∧ j ≤ l.length ∧ (MonoL g l → Spl g l i j)) (fun i j=>j - i) 0 l.length ⟨Nat.zero_le _,by omega,fun _=>⟨fun k x h=>absurd h (by omega),fun k x h hx=>by have:=(List.getElem?_eq_some_iff.1 hx).1;omega⟩⟩ ?_
 rintro i j ⟨hij,hjn,hmono⟩
 (repeat (first | refine WK ?_ | refine All.i fun X=>?_ | refine AllY.i fun Y=>?_))
 refine AWP.cond rfl (fun hc=>?_) (fun hc=>?_)
 ·have h:i < j:=by rw [decide_eq_true_eq] at hc;omega
  have hmid:((i:Int) + j).fdiv (2 ^ 1) = (((i + j) / 2:Nat):Int):=by
   rw [Int.fdiv_eq_ediv_of_nonneg _ (by decide)];omega
  have hw1:IntKind.u64.wrap ((i:Int) + j) = i + j:=by rw [IntKind.wrap_u64];omega
  have hw2:IntKind.i64.wrap (((i:Int) + j).fdiv (2 ^ 1)) = ((i:Int) + j).fdiv (2 ^ 1):=by
   rw [IntKind.wrap_i64,hmid];omega
  (repeat refine WF ?_);refine AWP.region ?_;(repeat (first | (refine AOps.gN ?_;first | refine AOps.p (W.conv .i64 .u64 (by kernel_rfl) (by kernel_rfl) rfl hw1) rfl ?_ | refine AOps.p (W.shr 1 rfl rfl rfl (by decide)) rfl ?_ | refine AOps.p (W.conv .u64 .i64 (by kernel_rfl) (by kernel_rfl) rfl hw2) rfl ?_) | refine WO ?_ | refine All.i fun X=>?_ | refine AllY.i fun Y=>?_));refine AOps.nil ?_;(repeat refine WN ?_)
  rw [hmid]
  obtain ⟨m,hm⟩:∃ m,(i + j) / 2 = m:=⟨_,rfl⟩
  rw [hm]
  have hml:m < l.length:=by omega
  obtain ⟨y,hy⟩:∃ y,l[m] = y:=⟨_,rfl⟩
  have hya:l[m]? = some y:=by rw [List.getElem?_eq_getElem hml,hy]
  have hat:(ptrs px l)[m]? = some (.ptr (px y) 0 0):=by rw [List.getElem?_map,hya];rfl
  have hfy:=hf y (by rw [← hy];exact List.getElem_mem hml)
  (repeat refine WF ?_);refine AWP.region ?_;(repeat (first | (refine AOps.gN ?_;first | refine AOps.go (h:=W.idx rfl rfl (by exact At.f) rfl (by omega) (Nat.zero_add _)) (k:=?_) | refine AOps.uV2 [(Tb,_)] (h:=hfy) (k:=?_)) | refine WO ?_ | refine All.i fun X=>?_ | refine AllY.i fun Y=>?_));refine AOps.nil ?_;(repeat refine WN ?_)
  refine AWP.cond rfl (fun he=>?_) (fun he=>?_)
  ·have he:g y < 0:=by simpa using he
   (repeat (first | refine WK ?_ | refine All.i fun X=>?_ | refine AllY.i fun Y=>?_))
   refine lp_next2 (m + 1) j ⟨by omega,hjn,fun hM=>(hmono hM).lo hM hya he⟩
  ·have he:¬ g y < 0:=by simpa using he
   (repeat (first | refine WK ?_ | refine All.i fun X=>?_ | refine AllY.i fun Y=>?_))
   refine lp_next2 i m ⟨by omega,by omega,fun hM=>(hmono hM).hi hM hya he⟩
 ·have h:i = j:=by rw [decide_eq_false_iff_not] at hc;omega
  subst h
  by_cases hin:i < l.length
  ·have hil:i < l.length:=by omega
   have g1:decide ((i:Int) < l.length) = true:=decide_eq_true (by omega)
   obtain ⟨y,hy⟩:∃ y,l[i] = y:=⟨_,rfl⟩
   have hya:l[i]? = some y:=by rw [List.getElem?_eq_getElem hil,hy]
   have hat:(ptrs px l)[i]? = some (.ptr (px y) 0 0):=by rw [List.getElem?_map,hya];rfl
   have hfy:=hf y (by rw [← hy];exact List.getElem_mem hil)
   (repeat (first | (refine AOps.gN ?_;first | refine AOps.go (h:=W.idx rfl rfl (by exact At.f) rfl (by omega) (Nat.zero_add _)) (k:=?_) | refine AOps.uV2 [(Tb,_)] (h:=hfy) (k:=?_)) | refine WK ?_ | refine All.i fun X=>?_ | refine AllY.i fun Y=>?_))
   (refine AWP.ret ?_;(repeat (first | refine inB_r ?_ | refine andThen_r ?_));refine retQ_r ?_)
   exact Ends.sp [iA i,bA (decide (g y = 0))] ((Tb,.row 109 1 (ptrs px l)) :: R) ⟨(i,decide (g y = 0)),⟨by simp;omega,by simp [hya],hmono⟩,rfl,rfl⟩
  ·have g1:decide ((i:Int) < l.length) = false:=decide_eq_false (by omega)
   (repeat (first | refine WK ?_ | refine All.i fun X=>?_ | refine AllY.i fun Y=>?_))
   (refine AWP.ret ?_;(repeat (first | refine inB_r ?_ | refine andThen_r ?_));refine retQ_r ?_)
   exact Ends.sp [iA i,bA false] ((Tb,.row 109 1 (ptrs px l)) :: R) ⟨(i,false),⟨by simp;omega,by simp [List.getElem?_eq_none (show l.length ≤ i by omega)],hmono⟩,rfl,rfl⟩
def idxF {α:Type} (l:List α) (p:α → Bool):Int:=match l.findIdx? p with
 | some i=>i
 | none=>-1
theorem idxF_none {α:Type} {l:List α} {p:α → Bool} (h:∀ j (hj:j < l.length),p l[j] = false):idxF l p = -1:=by
 have:l.findIdx? p = none:=by
  rw [List.findIdx?_eq_none_iff]
  intro x hx
  obtain ⟨j,hj,rfl⟩:=List.getElem_of_mem hx
  exact h j hj
 simp [idxF,this]
theorem idxF_some {α:Type} {l:List α} {p:α → Bool} {i:Nat} (hi:i < l.length) (e:p l[i] = true) (h:∀ j (hj:j < i),p (l[j]'(by omega)) = false):idxF l p = i:=by
 have:l.findIdx? p = some i:=by
  rw [List.findIdx?_eq_some_iff_getElem]
  exact ⟨hi,e,fun j hj=>by simpa using h j hj⟩
 simp [idxF,this]
theorem idxF_any {α:Type} (l:List α) (p:α → Bool):decide ((0:Int) ≤ idxF l p) = l.any p:=by
 unfold idxF
 cases h:l.findIdx? p with
 | none =>
  rw [List.findIdx?_eq_none_iff] at h
  have:l.any p = false:=List.any_eq_false.2 fun x hx=>by rw [h x hx];simp
  rw [this]
  rfl
 | some i =>
  obtain ⟨hi,e,_⟩:=List.findIdx?_eq_some_iff_getElem.1 h
  have:l.any p = true:=List.any_eq_true.2 ⟨_,List.getElem_mem hi,e⟩
  rw [this]
  simp
theorem idxF_range {α:Type} (l:List α) (p:α → Bool) : -1 ≤ idxF l p ∧ idxF l p < l.length ∧ idxF l p ≤ l.length:=by
 unfold idxF
 cases h:l.findIdx? p with
 | none=>simp;omega
 | some i =>
  obtain ⟨hi,_⟩:=List.findIdx?_eq_some_iff_getElem.1 h
  simp;omega
theorem indexQ_sp {α:Type} (X:Nat) (l:List α) (px:α → Nat) (R:List Slot) (f:FuncId) (cap:List AV) (p:α → Bool) (hs:st1s cap = true) (hl:l.length ≤ 4611686018427387904) (hf:∀ x ∈ l,Spec Tryz.prog f (.ptr (px x) 0 0 :: cap) R fun r S'=>r = bA (p x) ∧ S' = R):Spec Tryz.prog 172 [.sl X 0 l.length,.fn f cap] ((X,.row 109 1 (ptrs px l)) :: R) fun r S'=>r = iA (idxF l p) ∧ S' = (X,.row 109 1 (ptrs px l)) :: R:=by
 refine Spec.of (nt:=19) (res:=[.tmp 4]) Tryz.func172 rfl (by kernel_rfl) rfl rfl rfl fun Sf=>?_
 (repeat (first | refine WK ?_ | refine All.i fun X=>?_ | refine AllY.i fun Y=>?_))
 refine AWP.lp (fun i:Nat=>⟨[(0,.sl X 0 l.length),(1,.fn f cap),(7,iA l.length),(8,iA i)],(X,.row 109 1 (ptrs px l)) :: (R ++ Sf)⟩) (fun i=>i ≤ l.length ∧ ∀ j (h:j < l.length),j < i → p l[j] = false) (fun i=>l.length - i) 0 ⟨Nat.zero_le _,fun j h hj=>absurd hj (by omega)⟩ ?_
 rintro i ⟨hi,he⟩
 (repeat (first | refine WK ?_ | refine All.i fun X=>?_ | refine AllY.i fun Y=>?_))
 refine AWP.cond rfl (fun hc=>?_) (fun hc=>?_)
 ·have h:i < l.length:=by simpa using hc
  have hfx:=hf _ (List.getElem_mem h)
  obtain ⟨y,hy⟩:∃ y,l[i] = y:=⟨_,rfl⟩
  have hat:(ptrs px l)[i]? = some (.ptr (px y) 0 0):=by rw [List.getElem?_map,List.getElem?_eq_getElem h,hy];rfl
  rw [hy] at hfx
  (repeat (first | (refine AOps.gN ?_;first | refine AOps.go (h:=W.idx rfl rfl (by exact At.f) rfl (by omega) (Nat.zero_add _)) (k:=?_) | refine AOps.uV1 [(X,_)] (h:=hfx) (k:=?_)) | refine WK ?_ | refine All.i fun X=>?_ | refine AllY.i fun Y=>?_))
  refine AWP.cond rfl (fun hd=>?_) (fun hd=>?_)
  ·(repeat (first | refine WK ?_ | refine All.i fun X=>?_ | refine AllY.i fun Y=>?_))
   rw [idxF_some h (by rw [hy];exact hd) fun j hj=>he j (by omega) hj]
   (refine AWP.ret ?_;(repeat (first | refine inB_r ?_ | refine andThen_r ?_));refine retQ_r ?_)
   exact Ends.sp [iA i] ((X,.row 109 1 (ptrs px l)) :: R) ⟨rfl,rfl⟩
  ·(repeat (first | refine WK ?_ | refine All.i fun X=>?_ | refine AllY.i fun Y=>?_))
   refine lp_next (i + 1) ⟨h,fun j h1 h2=>?_⟩
   by_cases e:j = i
   ·subst e;rw [hy];exact hd
   ·exact he j h1 (by omega)
 ·have h:¬ i < l.length:=by simpa using hc
  (repeat (first | refine WK ?_ | refine All.i fun X=>?_ | refine AllY.i fun Y=>?_))
  rw [idxF_none fun j hj=>he j hj (by omega)]
  (refine AWP.ret ?_;(repeat (first | refine inB_r ?_ | refine andThen_r ?_));refine retQ_r ?_)
  exact Ends.sp [iA (-1)] ((X,.row 109 1 (ptrs px l)) :: R) ⟨rfl,rfl⟩
theorem deleteQ_sp {α:Type} (X:Nat) (l:List α) (px:α → Nat) (R:List Slot) (f:FuncId) (cap:List AV) (p:α → Bool) (hs:st1s cap = true) (hl:l.length ≤ 4611686018427387903) (hf:∀ x ∈ l,Spec Tryz.prog f (.ptr (px x) 0 0 :: cap) R fun r S'=>r = bA (p x) ∧ S' = R):Spec Tryz.prog 169 [.sl X 0 l.length,.fn f cap] ((X,.row 109 1 (ptrs px l)) :: R) fun r S'=>r = .lst true 109 1 (ptrs px (l.filter fun x=>!p x)) ∧ S' = R:=by
 refine Spec.of (nt:=42) (res:=[.tmp 4]) Tryz.func169 rfl (by kernel_rfl) rfl rfl rfl fun Sf=>?_
 have h0:=indexQ_sp X l px R f cap p hs (by omega) hf
 have hr:=idxF_range l p
 obtain ⟨v,hv⟩:∃ v,idxF l p = v:=⟨_,rfl⟩
 rw [hv] at h0 hr
 (repeat (first | (refine AOps.gN ?_;first | refine AOps.u2 [] (h:=h0) (k:=?_)) | refine WK ?_ | refine All.i fun X=>?_ | refine AllY.i fun Y=>?_))
 refine AWP.cond rfl (fun hc=>?_) (fun hc=>?_)
 ·have hc:v = -1:=by simpa using hc
  have hall:(l.filter fun x=>!p x) = l:=by
   rw [List.filter_eq_self]
   intro x hx
   have h1:l.findIdx? p = none:=by
    unfold idxF at hv
    split at hv
    ·omega
    ·assumption
   rw [List.findIdx?_eq_none_iff] at h1
   simp [h1 x hx]
  rw [hall]
  (repeat (first | refine WK ?_ | refine All.i fun X=>?_ | refine AllY.i fun Y=>?_))
  (refine AWP.ret ?_;(repeat (first | refine inB_r ?_ | refine andThen_r ?_));refine retQ_r ?_)
  exact ⟨[.sl X 0 l.length],[.lst true 109 1 (ptrs px l)],_,R,.cons (.tmp rfl) rfl .nil,.cons (.cell (.sl (p:=0) .here (by simp))) .nil,by exact Sub.f,rfl,rfl⟩
 ·have hc:v ≠ -1:=by simpa using hc
  obtain ⟨i0,hi0⟩:∃ i0:Nat,v = i0:=⟨v.toNat,by omega⟩
  subst hi0
  have hfi:l.findIdx? p = some i0:=by
   unfold idxF at hv
   split at hv
   ·rename_i i hi;rw [hi];congr 1;omega
   ·omega
  obtain ⟨hil,hpi,hmin⟩:=List.findIdx?_eq_some_iff_getElem.1 hfi
  have ht0:(l.take (i0 + 1)).filter (fun x=>!p x) = l.take i0:=by
   rw [List.take_succ_eq_append_getElem hil,List.filter_append]
   rw [show ([l[i0]].filter fun x=>!p x) = [] by simp [hpi],List.append_nil,List.filter_eq_self]
   intro x hx
   obtain ⟨j,hj,rfl⟩:=List.mem_take_iff_getElem.1 hx
   have:=hmin j (by omega)
   simp at this ⊢
   exact this
  (repeat (first | refine WK ?_ | refine All.i fun X=>?_ | refine AllY.i fun Y=>?_))
  refine AWP.lp3 (fun (i j:Nat) (M:List AV)=>⟨[(0,.sl X 0 l.length),(1,.fn f cap),(5,iA i),(6,iA j)],(X,.row 109 1 M) :: (R ++ Sf)⟩) (fun i j M=>i < j ∧ j ≤ l.length ∧ ∃ K:List α,M = ptrs px K ∧ K.length = l.length ∧ K.take i = ((l.take j).filter fun x=>!p x) ∧ K.drop j = l.drop j) (fun i j _=>l.length - j) i0 (i0 + 1) (ptrs px l) ⟨by omega,hil,l,rfl,rfl,ht0.symm,rfl⟩ ?_
  rintro i j M ⟨hij,hj,K,rfl,hM,h1,h2⟩
  (repeat (first | refine WK ?_ | refine All.i fun X=>?_ | refine AllY.i fun Y=>?_))
  refine AWP.cond rfl (fun hd=>?_) (fun hd=>?_)
  ·have h:j < l.length:=by simpa using hd
   have hKj:K[j]? = some l[j]:=by
    have:=congrArg (fun z=>z[0]?) h2
    simpa [h] using this
   have hat:(ptrs px K)[j]? = some (.ptr (px l[j]) 0 0):=by rw [List.getElem?_map,hKj];rfl
   have hKi:i < K.length:=by omega
   obtain ⟨b,hb⟩:∃ b,p l[j] = b:=⟨_,rfl⟩
   have hfj:=hf _ (List.getElem_mem h)
   rw [hb] at hfj
   have htk:(l.take (j + 1)).filter (fun x=>!p x) = (l.take j).filter (fun x=>!p x) ++ if b then [] else [l[j]]:=by
    rw [List.take_succ_eq_append_getElem h,List.filter_append]
    congr 1
    cases b <;> simp [hb]
   obtain ⟨y,hy⟩:∃ y,l[j] = y:=⟨_,rfl⟩
   rw [hy] at hat hfj
   (repeat (first | (refine AOps.gN ?_;first | refine AOps.go (h:=W.idx rfl rfl (by exact At.f) rfl (by omega) (Nat.zero_add _)) (k:=?_) | refine AOps.uV1 [(X,_)] (h:=hfj) (k:=?_)) | refine WK ?_ | refine All.i fun X=>?_ | refine AllY.i fun Y=>?_))
   cases b
   ·refine AWP.cond_t rfl rfl ?_
    (repeat (first | refine WK ?_ | refine All.i fun X=>?_ | refine AllY.i fun Y=>?_))
    refine lp_next3 (i + 1) (j + 1) ((ptrs px K).set i (.ptr (px y) 0 0)) ⟨by omega,h,K.set i y,by rw [ptrs,ptrs,List.map_set],by simpa using hM,?_,?_⟩
    ·rw [htk,← h1,List.take_add_one,List.take_set,List.set_eq_of_length_le (by rw [List.length_take];omega),List.getElem?_set_self hKi]
     simp [hy]
    ·rw [List.drop_set_of_lt (by omega),← List.drop_drop,h2,List.drop_drop]
   ·refine AWP.cond_f rfl rfl ?_
    (repeat (first | refine WK ?_ | refine All.i fun X=>?_ | refine AllY.i fun Y=>?_))
    refine lp_next3 i (j + 1) _ ⟨by omega,h,K,rfl,hM,?_,?_⟩
    ·rw [h1,htk];simp
    ·rw [← List.drop_drop,h2,List.drop_drop]
  ·have h:j = l.length:=by rw [decide_eq_false_iff_not] at hd;omega
   subst h
   have h1':K.take i = l.filter fun x=>!p x:=by rw [h1,List.take_length]
   have hKl:(ptrs px K).length = l.length:=by rw [List.length_map,hM]
   have hki:∀ A B,(List.take (0 + i) (ptrs px K) ++ A ++ B).take i = ptrs px (l.filter fun x=>!p x):=fun A B=>by
    rw [Nat.zero_add,List.append_assoc,List.take_append_of_le_length (by rw [List.length_take];omega),List.take_take,Nat.min_self,ptrs,← List.map_take,h1']
   have hfl:i = (ptrs px (l.filter fun x=>!p x)).length:=by
    rw [← h1',List.length_map,List.length_take];omega
   (repeat (first | (refine AOps.gN ?_;first | refine AOps.s (W.slice_lo rfl rfl (by exact At.f) rfl (by omega)) rfl ?_ | refine AOps.s (W.clear rfl (by exact At.f) (by first | exact .inl rfl | exact .inr rfl) rfl (by omega)) rfl ?_ | refine AOps.p (W.hi rfl rfl (by exact At.f) rfl (by omega)) rfl ?_) | refine WK ?_ | refine All.i fun X=>?_ | refine AllY.i fun Y=>?_))
   refine AWP.shrink (X:=X) i ?_
   rw [hki]
   (refine AWP.ret ?_;(repeat (first | refine inB_r ?_ | refine andThen_r ?_));refine retQ_r ?_)
   exact ⟨[.sl X 0 i],[.lst true 109 1 (ptrs px (l.filter fun x=>!p x))],_,R,.cons (.tmp rfl) rfl .nil,.cons (.cell (.sl (p:=0) .here hfl)) .nil,by exact Sub.f,rfl,rfl⟩
structure Tab where
 X:Nat
 ks:List Int
 ek:StK
 es:List (Int × Ent)
 cs:List (StK × List (Int × List Int))
def colsS (cs:List (StK × List (Int × List Int))):List Slot:=cs.flatMap fun c=>stS c.1 c.2
abbrev colP (cs:List (StK × List (Int × List Int))):AV:=.lst false 155 1 (cs.map fun c=>.ptr c.1.X 0 0)
abbrev tabH (t:Tab):Slot:=(t.X,.row 115 3 [.agg [intsA false t.ks,.ptr t.ek.X 0 0,colP t.cs]])
abbrev tabS (t:Tab):List Slot:=tabH t :: (stE t.ek t.es ++ colsS t.cs)
theorem colsS_app (a b:List (StK × List (Int × List Int))):colsS (a ++ b) = colsS a ++ colsS b:=List.flatMap_append
theorem colsS_cons (c:StK × List (Int × List Int)) (b:List (StK × List (Int × List Int))):colsS (c :: b) = stS c.1 c.2 ++ colsS b:=List.flatMap_cons
theorem splitL_at {α:Type} {l:List α} {i:Nat} (h:i < l.length):∃ l1 l2,l = l1 ++ l[i] :: l2 ∧ l1.length = i:=⟨l.take i,l.drop (i + 1),by rw [List.getElem_cons_drop,List.take_append_drop],by rw [List.length_take];omega⟩
def tComps (t:Tab) (n:Int):List Comp:=(t.ks.zip t.cs).map fun q=>⟨q.1,(stGet q.2.2 n).getD []⟩
structure TabOK (t:Tab):Prop where
 len:t.ks.length = t.cs.length
 ks:t.ks.length ≤ 16
 es:ColOK t.es
 cs:∀ c ∈ t.cs,ColOK c.2
 keys:∀ c ∈ t.cs,∀ n,n ∈ keysC c.2 ↔ n ∈ keysC t.es
theorem add1_sp (t:Tab) (ks:List Int) (hl:t.ks.length ≤ 1099511627776):Spec Tryz.prog 87 [.ptr t.X 0 0,intsA false ks] [tabH t] fun r S'=>r = iA (cmpL t.ks ks) ∧ S' = [tabH t]:=by
 have h1:=compareL_ps t.ks ks hl
 refine Spec.of (nt:=11) (res:=[.tmp 4]) Tryz.func87 rfl (by kernel_rfl) rfl rfl rfl fun Sf=>?_
 (repeat refine WF ?_);refine AWP.region ?_;(repeat (first | refine WO ?_ | refine All.i fun X=>?_ | refine AllY.i fun Y=>?_));refine AOps.nil ?_;(repeat refine WN ?_)
 (repeat first | refine AOps.nil ?_ | refine WF ?_)
 (repeat refine WF ?_);refine AWP.region ?_;(repeat (first | (refine AOps.gN ?_;first | (refine AOps.g_callf ?_;first | refine AOps.c2 (h:=(h1 ..)) (k:=?_))) | refine WO ?_ | refine All.i fun X=>?_ | refine AllY.i fun Y=>?_));refine AOps.nil ?_;(repeat refine WN ?_)
 (refine AWP.ret ?_;(repeat (first | refine inB_r ?_ | refine andThen_r ?_));refine retQ_r ?_)
 exact Ends.sp [iA (cmpL t.ks ks)] [tabH t] ⟨rfl,rfl⟩
abbrev compZ:AV:=.agg [iA 0,.prim (.slice none 0 0)]
theorem tComps_at {t:Tab} {n:Int} {i:Nat} (h:i < (tComps t n).length) (h1:i < t.ks.length) (h2:i < t.cs.length):(tComps t n)[i] = ⟨t.ks[i],(stGet t.cs[i].2 n).getD []⟩:=by simp [tComps]
theorem comps_sp (t:Tab) (n:Int) (ht:TabOK t) (hn:I64 n) (hk:n ∈ keysC t.es):Spec Tryz.prog 54 [.ptr t.X 0 0,iA n] (tabS t) fun r S'=>r = .lst true 42 2 ((tComps t n).map (compA false)) ∧ S' = tabS t:=by
 have hkm:(t.ks.map iA).length = t.ks.length:=List.length_map _
 have hcm:(t.cs.map fun c=>AV.ptr c.1.X 0 0).length = t.cs.length:=List.length_map _
 have hlen:=ht.len
 have h16:=ht.ks
 have htl:(tComps t n).length = t.ks.length:=by unfold tComps;rw [List.length_map,List.length_zip];omega
 refine Spec.of (nt:=46) (res:=[.tmp 4]) Tryz.func54 rfl (by kernel_rfl) rfl rfl rfl fun Sf=>?_
 (repeat refine WF ?_);refine AWP.region ?_;(repeat (first | refine WO ?_ | refine All.i fun X=>?_ | refine AllY.i fun Y=>?_));refine AOps.nil ?_;(repeat refine WN ?_)
 (repeat first | refine AOps.nil ?_ | refine WF ?_)
 (repeat refine WF ?_);refine AWP.region ?_;(repeat (first | (refine AOps.gN ?_;first | (refine AOps.g_make ?_;refine AOps.goM (AV.agg [iA 0,.prim (.slice none 0 0)]) fun K=>?_)) | refine WO ?_ | refine All.i fun K=>?_ | refine AllY.i fun Y=>?_));refine AOps.nil ?_;(repeat refine WN ?_)
 rw [hkm,← htl,← fillL_zero (compA false)]
 (repeat first | refine AOps.nil ?_ | refine WF ?_)
 (repeat refine WF ?_);refine AWP.region ?_;(repeat (first | refine WO ?_ | refine All.i fun X=>?_ | refine AllY.i fun Y=>?_));refine AOps.nil ?_;(repeat refine WN ?_)
 (repeat first | refine AOps.nil ?_ | refine WF ?_)
 refine AWP.lp (fun (i:Nat)=>⟨[(0,.ptr t.X 0 0),(1,iA n),(5,.sl K 0 (tComps t n).length),(19,intsA false t.ks),(20,iA (t.ks.map iA).length),(21,iA i)],(K,.row 42 2 (fillL (compA false) compZ (tComps t n) i)) :: (tabS t ++ Sf)⟩) (fun i=>i ≤ t.ks.length) (fun i=>t.ks.length - i) 0 (by omega) ?_
 rintro i hi
 have hfl:=fillL_len (compA false) compZ (tComps t n) (i:=i) (by omega)
 (repeat refine WF ?_);refine AWP.region ?_;(repeat (first | refine WO ?_ | refine All.i fun X=>?_ | refine AllY.i fun Y=>?_));refine AOps.nil ?_;(repeat refine WN ?_)
 (repeat first | refine AOps.nil ?_ | refine WF ?_)
 refine AWP.cond rfl (fun h=>?_) (fun h=>?_)
 ·have h:i < t.ks.length:=by rw [decide_eq_true_eq,hkm] at h;omega
  have hc:i < t.cs.length:=by omega
  have hat:(t.ks.map iA)[i]? = some (iA t.ks[i]):=map_at _ h
  have hil:i < (t.ks.map iA).length:=by omega
  have hti:i < (tComps t n).length:=by omega
  have hfa:=fillL_at (compA false) compZ (tComps t n) hti
  have hfs:=fillL_set (compA false) compZ (tComps t n) hti
  have hcat:(t.cs.map fun c=>AV.ptr c.1.X 0 0)[i]? = some (.ptr t.cs[i].1.X 0 0):=map_at _ hc
  have hcil:i < (t.cs.map fun c=>AV.ptr c.1.X 0 0).length:=by omega
  have hcm:=List.getElem_mem hc
  obtain ⟨v,hv⟩:=stGet_some ((ht.keys _ hcm n).2 hk)
  have hel:(tComps t n)[i] = ⟨t.ks[i],v⟩:=by
   rw [tComps_at hti h hc,hv]
   rfl
  rw [hel] at hfs
  have hget:=getS_yes t.cs[i].1 t.cs[i].2 (ht.cs _ hcm) n hn v hv
  obtain ⟨l1,l2,hsp,hl1⟩:=splitL_at hc
  obtain ⟨c,hce⟩:∃ c,t.cs[i] = c:=⟨_,rfl⟩
  rw [hce] at hget hsp hcat
  obtain ⟨k,hke⟩:∃ k,t.ks[i] = k:=⟨_,rfl⟩
  rw [hke] at hat hfs
  have heq:(K,AO.row 42 2 (fillL (compA false) compZ (tComps t n) i)) :: (tabS t ++ Sf) = ((K,AO.row 42 2 (fillL (compA false) compZ (tComps t n) i)) :: tabH t :: (stE t.ek t.es ++ colsS l1)) ++ (stS c.1 c.2 ++ (colsS l2 ++ Sf)):=by
   have e1:colsS t.cs = colsS l1 ++ (stS c.1 c.2 ++ colsS l2):=by
    conv=>lhs;rw [hsp]
    rw [colsS_app,colsS_cons]
   rw [tabS,e1]
   simp only [List.cons_append,List.append_assoc]
  (repeat first | refine AOps.nil ?_ | refine WF ?_)
  (repeat refine WF ?_);refine AWP.region ?_;(repeat (first | refine WO ?_ | refine All.i fun X=>?_ | refine AllY.i fun Y=>?_));refine AOps.nil ?_;(repeat refine WN ?_)
  (repeat first | refine AOps.nil ?_ | refine WF ?_)
  (repeat refine WF ?_);refine AWP.region ?_;(repeat (first | (refine AOps.gN ?_;first | refine AOps.u2 _ (h:=hget) (k:=?_) (hp:=heq)) | refine WO ?_ | refine All.i fun X=>?_ | refine AllY.i fun Y=>?_));refine AOps.nil ?_;(repeat refine WN ?_)
  rw [← heq]
  (repeat first | refine AOps.nil ?_ | refine WF ?_)
  (repeat refine WF ?_);refine AWP.region ?_;(repeat (first | (refine AOps.gN ?_;first | refine AOps.go (h:=W.idx rfl rfl (by exact At.f) rfl (by omega) (Nat.zero_add _)) (k:=?_)) | refine WO ?_ | refine All.i fun X=>?_ | refine AllY.i fun Y=>?_));refine AOps.nil ?_;(repeat refine WN ?_)
  refine AWP.rowEq K hfs ?_
  (repeat first | refine AOps.nil ?_ | refine WF ?_)
  (repeat refine WF ?_);refine AWP.region ?_;(repeat (first | refine WO ?_ | refine All.i fun X=>?_ | refine AllY.i fun Y=>?_));refine AOps.nil ?_;(repeat refine WN ?_)
  exact lp_next (i + 1) (by omega)
 ·have h:i = t.ks.length:=by rw [decide_eq_false_iff_not,hkm] at h;omega
  subst h
  have hfa:fillL (compA false) compZ (tComps t n) t.ks.length = (tComps t n).map (compA false):=by rw [← htl];exact fillL_all _ _ _
  rw [hfa]
  (repeat first | refine AOps.nil ?_ | refine WF ?_)
  (repeat refine WF ?_);refine AWP.region ?_;(repeat (first | refine WO ?_ | refine All.i fun X=>?_ | refine AllY.i fun Y=>?_));refine AOps.nil ?_;(repeat refine WN ?_)
  (refine AWP.ret ?_;(repeat (first | refine inB_r ?_ | refine andThen_r ?_));refine retQ_r ?_)
  exact ⟨[.sl K 0 (tComps t n).length],[.lst true 42 2 ((tComps t n).map (compA false))],_,tabS t,.cons (.tmp rfl) rfl .nil,.cons (.cell (.sl (p:=0) .here (by simp))) .nil,by exact Sub.f,rfl,rfl⟩
theorem cmpI_eqz {x y:Int}:cmpI x y = 0 ↔ x = y:=by unfold cmpI;split <;> (try split) <;> omega
theorem cmpI_ltz {x y:Int}:cmpI x y < 0 ↔ x < y:=by unfold cmpI;split <;> (try split) <;> omega
theorem cmpL_zero:∀ {a b:List Int},cmpL a b = 0 ↔ a = b
 | [],[]=>by simp [cmpL]
 | [],_ :: _=>by simp [cmpL]
 | _ :: _,[]=>by simp [cmpL]
 | x :: a,y :: b=>by
  rw [cmpL,List.cons.injEq]
  by_cases h:cmpI x y = 0
  ·rw [if_neg (by simp [h]),cmpL_zero,cmpI_eqz.1 h];simp
  ·rw [if_pos h]
   exact ⟨fun e=>absurd e h,fun e=>absurd (cmpI_eqz.2 e.1) h⟩
theorem cmpL_trans:∀ {a b c:List Int},cmpL a b < 0 → cmpL b c < 0 → cmpL a c < 0
 | [],[],_,h,_=>by simp [cmpL] at h
 | [],_ :: _,[],_,h=>by simp [cmpL] at h
 | [],_ :: _,_ :: _,_,_=>by simp [cmpL]
 | _ :: _,[],_,h,_=>by simp [cmpL] at h
 | _ :: _,_ :: _,[],_,h=>by simp [cmpL] at h
 | x :: a,y :: b,z :: c,h1,h2=>by
  rw [cmpL] at h1 h2 ⊢
  by_cases e1:cmpI x y = 0
  ·have e1':=cmpI_eqz.1 e1
   subst e1'
   rw [if_neg (by simp [e1])] at h1
   by_cases e2:cmpI x z = 0
   ·rw [if_neg (by simp [e2])] at h2 ⊢
    exact cmpL_trans h1 h2
   ·rw [if_pos e2] at h2 ⊢
    exact h2
  ·rw [if_pos e1] at h1
   have l1:=cmpI_ltz.1 h1
   by_cases e2:cmpI y z = 0
   ·have e2':=cmpI_eqz.1 e2
    subst e2'
    rw [if_pos e1]
    exact h1
   ·rw [if_pos e2] at h2
    have l2:=cmpI_ltz.1 h2
    have l3:cmpI x z < 0:=cmpI_ltz.2 (by omega)
    rw [if_pos (by omega)]
    exact l3
theorem cmpL_swap:∀ {a b:List Int},¬ cmpL a b < 0 → a ≠ b → cmpL b a < 0
 | [],[],_,h=>absurd rfl h
 | [],_ :: _,h,_=>absurd (by simp [cmpL]) h
 | _ :: _,[],_,_=>by simp [cmpL]
 | x :: a,y :: b,h,hne=>by
  rw [cmpL] at h ⊢
  by_cases e:cmpI x y = 0
  ·have e':=cmpI_eqz.1 e
   subst e'
   rw [if_neg (by simp [e])] at h ⊢
   exact cmpL_swap h fun e2=>hne (by rw [e2])
  ·rw [if_pos e] at h
   have hxy:x ≠ y:=fun e2=>e (cmpI_eqz.2 e2)
   have:¬ x < y:=fun l=>h (cmpI_ltz.2 l)
   have l:cmpI y x < 0:=cmpI_ltz.2 (by omega)
   rw [if_pos (by omega)]
   exact l
structure Ar where
 A:Nat
 G:Nat
 Tb:Nat
 O:Nat
 Tv:Nat
 K:AV → Value → Prop
 g:Int → Option Value
 c:Nat
 kinds:List Kind
 gens:List Int
 ts:List Tab
def tabsS (ts:List Tab):List Slot:=ts.flatMap tabS
abbrev arH (a:Ar):List Slot:=[(a.A,.row 107 4 [.agg [kindsA false false a.kinds,.sl a.G 0 a.gens.length,.sl a.Tb 0 a.ts.length,.mp a.O]]),(a.G,.row 3 1 (a.gens.map iA)),(a.O,.ob (MapF Tryz.prog 3 109 a.g a.c)),(a.Tv,.tv a.K),(a.Tb,.row 109 1 (ptrs Tab.X a.ts))]
abbrev arS (a:Ar):List Slot:=arH a ++ tabsS a.ts
theorem tabsS_app (a b:List Tab):tabsS (a ++ b) = tabsS a ++ tabsS b:=List.flatMap_append
theorem tabsS_cons (t:Tab) (b:List Tab):tabsS (t :: b) = tabS t ++ tabsS b:=List.flatMap_cons
theorem tabs_open {l1 l2:List Tab} {t:Tab} (R:List Slot):(tabsS (l1 ++ t :: l2) ++ R).Perm (tabS t ++ (tabsS l1 ++ (tabsS l2 ++ R))):=by
 rw [tabsS_app,tabsS_cons,List.append_assoc,List.append_assoc]
 exact perm_mid _ _ _
abbrev tKeys (ts:List Tab):List Int:=ts.flatMap fun t=>keysC t.es
def tItems (t:Tab):List Item:=t.es.map fun e=>⟨e.2,tComps t e.1⟩
def arItems (ts:List Tab):List Item:=ts.flatMap tItems
structure ArOK (a:Ar):Prop where
 tab:∀ t ∈ a.ts,TabOK t
 ord:a.ts.Pairwise fun t u=>cmpL t.ks u.ks < 0
 keys:(tKeys a.ts).Nodup
 ent:∀ t ∈ a.ts,∀ e ∈ t.es,e.1 = e.2.n
 g:∀ n u,a.g n = some u → ∃ t ∈ a.ts,n ∈ keysC t.es ∧ a.K (.ptr t.X 0 0) u ∧ ∃ b:Nat,u = .pointer (some ⟨b,0,none⟩)
 gn:∀ n ∈ tKeys a.ts,(a.g n).isSome = true
 cnt:a.c = (tKeys a.ts).length
theorem ArOK.lt {a:Ar} (h:ArOK a):∀ n ∈ tKeys a.ts,0 ≤ n ∧ n < 256:=fun n hn=>by
 obtain ⟨t,ht,hm⟩:=List.mem_flatMap.1 hn
 exact (h.tab t ht).es.lt n hm
theorem ArOK.c_le {a:Ar} (h:ArOK a):a.c ≤ 256:=by rw [h.cnt];exact nodup256 h.keys h.lt
def ArNE (ts:List Tab):Prop:=∀ t ∈ ts,t.es ≠ []
theorem ArOK.ts_le {a:Ar} (h:ArOK a) (hne:ArNE a.ts):a.ts.length ≤ 256:=by
 refine Nat.le_trans ?_ h.c_le
 rw [h.cnt,tKeys,List.length_flatMap]
 have:∀ ts:List Tab,(∀ t ∈ ts,t.es ≠ []) → ts.length ≤ (ts.map fun t=>(keysC t.es).length).sum:=by
  intro ts
  induction ts with
  | nil=>intro _;simp
  | cons t ts ih =>
   intro hh
   have h1:=ih fun t ht=>hh t (by simp [ht])
   have h2:0 < (keysC t.es).length:=by rw [List.length_map];exact List.length_pos_iff.2 (hh t (by simp))
   simp only [List.length_cons,List.map_cons,List.sum_cons]
   omega
 exact this a.ts hne
theorem ArOK.mono {a:Ar} (h:ArOK a) (ks:List Int):MonoL (fun t:Tab=>cmpL t.ks ks) a.ts:=by
 intro i j x y hij hx hy hg
 rcases Nat.lt_or_eq_of_le hij with hlt | rfl
 ·obtain ⟨hi,rfl⟩:=List.getElem?_eq_some_iff.1 hx
  obtain ⟨hj,rfl⟩:=List.getElem?_eq_some_iff.1 hy
  exact cmpL_trans (List.pairwise_iff_getElem.1 h.ord i j hi hj hlt) hg
 ·rw [hx] at hy
  injection hy with hy
  subst hy
  exact hg
theorem ord_ins {ts:List Tab} {t:Tab} {ks:List Int} {i:Nat} (h:ts.Pairwise fun t u=>cmpL t.ks u.ks < 0) (hm:MonoL (fun t:Tab=>cmpL t.ks ks) ts) (hf:Found (fun t:Tab=>cmpL t.ks ks) ts (i,false)) (ht:t.ks = ks):(ts.take i ++ t :: ts.drop i).Pairwise fun t u=>cmpL t.ks u.ks < 0:=by
 obtain ⟨hlo,hhi⟩:=hf.mono hm
 have heq:=hf.eq
 dsimp only at hlo hhi heq
 have h1:∀ x ∈ ts.take i,cmpL x.ks ks < 0:=fun x hx=>by
  obtain ⟨j,hj,rfl⟩:=List.mem_take_iff_getElem.1 hx
  exact hlo j _ (by omega) (List.getElem?_eq_getElem (by omega))
 have h2:∀ x ∈ ts.drop i,cmpL ks x.ks < 0:=fun x hx=>by
  obtain ⟨j,hj,rfl⟩:=List.mem_iff_getElem.1 hx
  rw [List.length_drop] at hj
  rw [List.getElem_drop]
  have hg:ts[i + j]? = some ts[i + j]:=List.getElem?_eq_getElem (by omega)
  have hn:=hhi (i + j) _ (by omega) hg
  refine cmpL_swap hn fun e=>?_
  cases j with
  | zero =>
   have:(false:Bool) = true:=heq.2 ⟨ts[i],List.getElem?_eq_getElem (by omega),cmpL_zero.2 e⟩
   cases this
  | succ j =>
   have hi':ts[i]? = some ts[i]:=List.getElem?_eq_getElem (by omega)
   have h3:=List.pairwise_iff_getElem.1 h i (i + (j + 1)) (by omega) (by omega) (by omega)
   rw [e] at h3
   exact hhi i _ (Nat.le_refl _) hi' h3
 rw [List.pairwise_append]
 refine ⟨h.sublist (List.take_sublist _ _),List.pairwise_cons.2 ⟨fun x hx=>by rw [ht];exact h2 x hx,h.sublist (List.drop_sublist _ _)⟩,fun x hx y hy=>?_⟩
 rcases List.mem_cons.1 hy with rfl | hy
 ·rw [ht];exact h1 x hx
 ·exact cmpL_trans (h1 x hx) (h2 y hy)
theorem tKeys_app (a b:List Tab):tKeys (a ++ b) = tKeys a ++ tKeys b:=List.flatMap_append
theorem tKeys_cons (t:Tab) (b:List Tab):tKeys (t :: b) = keysC t.es ++ tKeys b:=List.flatMap_cons
theorem arItems_app (a b:List Tab):arItems (a ++ b) = arItems a ++ arItems b:=List.flatMap_append
theorem arItems_cons (t:Tab) (b:List Tab):arItems (t :: b) = tItems t ++ arItems b:=List.flatMap_cons
theorem ArOK.newT {a:Ar} (h:ArOK a) {t:Tab} {i Y:Nat} (ht:TabOK t) (he:t.es = []) (hf:Found (fun u:Tab=>cmpL u.ks t.ks) a.ts (i,false)):ArOK { a with Tb:=Y,ts:=a.ts.take i ++ t :: a.ts.drop i }:=by
 have hk:tKeys (a.ts.take i ++ t :: a.ts.drop i) = tKeys a.ts:=by
  rw [tKeys_app,tKeys_cons,he]
  conv=>rhs;rw [← List.take_append_drop i a.ts,tKeys_app]
  rfl
 have hm:∀ u,u ∈ a.ts.take i ++ t :: a.ts.drop i ↔ u = t ∨ u ∈ a.ts:=fun u=>by
  conv=>rhs;rw [← List.take_append_drop i a.ts]
  simp only [List.mem_append,List.mem_cons]
  constructor
  ·rintro (h | h | h)
   ·exact .inr (.inl h)
   ·exact .inl h
   ·exact .inr (.inr h)
  ·rintro (h | h | h)
   ·exact .inr (.inl h)
   ·exact .inl h
   ·exact .inr (.inr h)
 refine ⟨fun u hu=>?_,ord_ins h.ord (h.mono _) hf rfl,by rw [hk];exact h.keys,fun u hu=>?_,fun n u hg=>?_,fun n hn=>h.gn n (by rw [hk] at hn;exact hn),by rw [hk];exact h.cnt⟩
 ·rcases (hm u).1 hu with rfl | hu
  ·exact ht
  ·exact h.tab u hu
 ·rcases (hm u).1 hu with rfl | hu
  ·rw [he];intro e he;cases he
  ·exact h.ent u hu
 ·obtain ⟨w,hw,h2⟩:=h.g n u hg
  exact ⟨w,(hm w).2 (.inr hw),h2⟩
theorem items_newT {ts:List Tab} {t:Tab} {i:Nat} (he:t.es = []):arItems (ts.take i ++ t :: ts.drop i) = arItems ts:=by
 rw [arItems_app,arItems_cons,tItems,he]
 conv=>rhs;rw [← List.take_append_drop i ts,arItems_app]
 rfl
theorem keys_newT {ts:List Tab} {t:Tab} {i:Nat} (he:t.es = []):tKeys (ts.take i ++ t :: ts.drop i) = tKeys ts:=by
 rw [tKeys_app,tKeys_cons,he]
 conv=>rhs;rw [← List.take_append_drop i ts,tKeys_app]
 rfl
structure CsUp (n:Int) (l:List Comp) (i:Nat) (cs cs':List (StK × List (Int × List Int))):Prop where
 len:cs'.length = cs.length
 X:∀ j (h:j < cs.length) (h':j < cs'.length),cs'[j].1.X = cs[j].1.X
 c:∀ j (h:j < cs.length) (h':j < cs'.length),cs'[j].2 = if j < i then stPut cs[j].2 n ((l[j]?.map (·.vals)).getD []) else cs[j].2
theorem CsUp.zero (n:Int) (l:List Comp) (cs:List (StK × List (Int × List Int))):CsUp n l 0 cs cs:=⟨rfl,fun _ _ _=>rfl,fun j h h'=>by rw [if_neg (by omega)]⟩
theorem CsUp.ptrs {n:Int} {l:List Comp} {i:Nat} {cs cs':List (StK × List (Int × List Int))} (h:CsUp n l i cs cs'):cs'.map (fun c=>AV.ptr c.1.X 0 0) = cs.map (fun c=>AV.ptr c.1.X 0 0):=by
 refine List.ext_getElem (by simp [h.len]) fun j h1 h2=>?_
 rw [List.getElem_map,List.getElem_map,h.X j (by simpa using h2) (by simpa using h1)]
theorem CsUp.next {n:Int} {l:List Comp} {i:Nat} {cs cs':List (StK × List (Int × List Int))} (h:CsUp n l i cs cs') {l1 l2:List (StK × List (Int × List Int))} {c:StK × List (Int × List Int)} {v:List Int} (e:cs' = l1 ++ c :: l2) (h1:l1.length = i) (hv:l[i]?.map (·.vals) = some v) (k:StK) (hk:k.X = c.1.X):CsUp n l (i + 1) cs (l1 ++ (k,stPut c.2 n v) :: l2):=by
 have hlen:=h.len
 have hl:cs'.length = l1.length + (l2.length + 1):=by rw [e];simp
 have hi':i < cs'.length:=by omega
 have hc:cs'[i] = c:=by
  have:cs'[i]? = some c:=by rw [e,List.getElem?_append_right (by omega),h1,Nat.sub_self];rfl
  rw [List.getElem?_eq_getElem hi'] at this
  injection this
 have hold:∀ j (hj:j < cs'.length),j ≠ i → (l1 ++ (k,stPut c.2 n v) :: l2)[j]'(by simp;omega) = cs'[j]:=fun j hj hne=>by
  have h3:(l1 ++ (k,stPut c.2 n v) :: l2)[j]? = cs'[j]?:=by
   rw [e]
   by_cases hji:j < i
   ·rw [List.getElem?_append_left (by omega),List.getElem?_append_left (by omega)]
   ·rw [List.getElem?_append_right (by omega),List.getElem?_append_right (by omega),show j - l1.length = (j - i - 1) + 1 by omega]
    rfl
  rw [List.getElem?_eq_getElem hj,List.getElem?_eq_getElem (by simp;omega)] at h3
  injection h3
 have hnew:(l1 ++ (k,stPut c.2 n v) :: l2)[i]'(by simp;omega) = (k,stPut c.2 n v):=by
  have h3:(l1 ++ (k,stPut c.2 n v) :: l2)[i]? = some (k,stPut c.2 n v):=by rw [List.getElem?_append_right (by omega),h1,Nat.sub_self];rfl
  rw [List.getElem?_eq_getElem (by simp;omega)] at h3
  injection h3
 refine ⟨by simp;omega,fun j hj hj'=>?_,fun j hj hj'=>?_⟩
 ·by_cases hne:j = i
  ·subst hne
   rw [hnew,hk,← hc]
   exact h.X j hj hi'
  ·rw [hold j (by omega) hne]
   exact h.X j hj (by omega)
 ·by_cases hne:j = i
  ·subst hne
   have:=h.c j hj hi'
   rw [if_neg (by omega),hc] at this
   rw [hnew,if_pos (by omega),hv,this]
   rfl
  ·rw [hold j (by omega) hne,h.c j hj (by omega)]
   by_cases hji:j < i
   ·rw [if_pos hji,if_pos (by omega)]
   ·rw [if_neg hji,if_neg (by omega)]
section
section
variable {t:Tab} {e:Ent} {l:List Comp} {cs:List (StK × List (Int × List Int))} {k:StK}
abbrev upT (t:Tab) (k:StK) (e:Ent) (cs:List (StK × List (Int × List Int))):Tab:=⟨t.X,t.ks,k,stPut t.es e.n e,cs⟩
theorem CsUp.at {n:Int} {l:List Comp} {i:Nat} {cs cs':List (StK × List (Int × List Int))} (h:CsUp n l i cs cs') {c:StK × List (Int × List Int)} (hc:c ∈ cs'):∃ j,∃ h1:j < cs.length,∃ h2:j < cs'.length,cs'[j] = c:=by
 obtain ⟨j,hj,rfl⟩:=List.getElem_of_mem hc
 exact ⟨j,by rw [← h.len];exact hj,hj,rfl⟩
theorem TabOK.up (h:TabOK t) (hn:0 ≤ e.n ∧ e.n < 256) (hf:e.n ∉ keysC t.es) (hu:CsUp e.n l t.cs.length t.cs cs):TabOK (upT t k e cs):=by
 refine ⟨by rw [hu.len];exact h.len,h.ks,h.es.put hn e,fun c hc=>?_,fun c hc n=>?_⟩
 ·obtain ⟨j,h1,h2,rfl⟩:=hu.at hc
  rw [hu.c j h1 h2,if_pos h1]
  exact (h.cs _ (List.getElem_mem h1)).put hn _
 ·obtain ⟨j,h1,h2,rfl⟩:=hu.at hc
  have hk:=h.keys _ (List.getElem_mem h1)
  have hfc:e.n ∉ keysC t.cs[j].2:=fun hm=>hf ((hk _).1 hm)
  rw [hu.c j h1 h2,if_pos h1]
  show n ∈ keysC (stPut _ _ _) ↔ n ∈ keysC (stPut t.es e.n e)
  rw [stPut_new hfc,stPut_new hf,keysC,keysC,List.map_append,List.map_append,List.mem_append,List.mem_append]
  exact or_congr (hk n) (by simp)
theorem tComps_old (h:TabOK t) (hn:0 ≤ e.n ∧ e.n < 256) (hu:CsUp e.n l t.cs.length t.cs cs) {n:Int} (hne:n ≠ e.n):tComps (upT t k e cs) n = tComps t n:=by
 have hlen:=h.len
 have hl:=hu.len
 refine List.ext_getElem (by simp [tComps];omega) fun i h1 h2=>?_
 have hc:i < t.cs.length:=by simp [tComps] at h2;omega
 have hk:i < t.ks.length:=by omega
 rw [tComps_at h2 hk hc,tComps_at (t:=upT t k e cs) h1 hk (by show i < cs.length;omega)]
 show (⟨_,(stGet (cs[i]'(by omega)).2 n).getD []⟩:Comp) = _
 rw [hu.c i hc (by omega),if_pos hc,stPut_get (h.cs _ (List.getElem_mem hc)) hn,if_neg hne]
theorem tComps_new (h:TabOK t) (hn:0 ≤ e.n ∧ e.n < 256) (hks:t.ks = l.map (·.kind)) (hu:CsUp e.n l t.cs.length t.cs cs):tComps (upT t k e cs) e.n = l:=by
 have hlen:=h.len
 have hl:=hu.len
 have hkl:t.ks.length = l.length:=by rw [hks,List.length_map]
 refine List.ext_getElem (by simp [tComps];omega) fun i h1 h2=>?_
 have hc:i < t.cs.length:=by omega
 have hk:i < t.ks.length:=by omega
 rw [tComps_at (t:=upT t k e cs) h1 hk (by show i < cs.length;omega)]
 show (⟨t.ks[i],(stGet (cs[i]'(by omega)).2 e.n).getD []⟩:Comp) = _
 rw [hu.c i hc (by omega),if_pos hc,stPut_get (h.cs _ (List.getElem_mem hc)) hn,if_pos rfl,List.getElem?_eq_getElem h2]
 have:t.ks[i] = l[i].kind:=by simp [hks]
 rw [this]
 rfl
theorem tItems_up (h:TabOK t) (hn:0 ≤ e.n ∧ e.n < 256) (hf:e.n ∉ keysC t.es) (hks:t.ks = l.map (·.kind)) (hu:CsUp e.n l t.cs.length t.cs cs):tItems (upT t k e cs) = tItems t ++ [⟨e,l⟩]:=by
 unfold tItems
 show (stPut t.es e.n e).map _ = _
 rw [stPut_new hf,List.map_append,List.map_cons,List.map_nil,tComps_new h hn hks hu]
 congr 1
 refine List.map_congr_left fun p hp=>?_
 rw [tComps_old h hn hu]
 intro e2
 exact hf (by rw [← e2];exact List.mem_map.2 ⟨p,hp,rfl⟩)
end
theorem ArOK.up {a:Ar} {l1 l2:List Tab} {t:Tab} {e:Ent} {l:List Comp} {cs:List (StK × List (Int × List Int))} {k:StK} {K':AV → Value → Prop} {b:Nat} (h:ArOK a) (hts:a.ts = l1 ++ t :: l2) (hn:0 ≤ e.n ∧ e.n < 256) (hf:e.n ∉ tKeys a.ts) (hu:CsUp e.n l t.cs.length t.cs cs) (hK:∀ v u,a.K v u → K' v u) (hKt:K' (.ptr t.X 0 0) (.pointer (some ⟨b,0,none⟩))) :
  ArOK { a with ts:=l1 ++ upT t k e cs :: l2,K:=K',g:=updG a.g e.n (.pointer (some ⟨b,0,none⟩)),c:=a.c + 1 }:=by
 have htm:t ∈ a.ts:=by rw [hts];simp
 have hft:e.n ∉ keysC t.es:=fun hm=>hf (List.mem_flatMap.2 ⟨t,htm,hm⟩)
 have hmem:∀ u,u ∈ l1 ++ upT t k e cs :: l2 → u = upT t k e cs ∨ u ∈ a.ts:=fun u hu=>by
  rw [hts]
  rcases List.mem_append.1 hu with hu | hu
  ·exact .inr (by simp [hu])
  ·rcases List.mem_cons.1 hu with hu | hu
   ·exact .inl hu
   ·exact .inr (by simp [hu])
 have hke:keysC (stPut t.es e.n e) = keysC t.es ++ [e.n]:=by rw [stPut_new hft,keysC,List.map_append];rfl
 have hkeys:(tKeys (l1 ++ upT t k e cs :: l2)).Perm (e.n :: tKeys a.ts):=by
  rw [hts,tKeys_app,tKeys_cons,tKeys_app,tKeys_cons]
  show (tKeys l1 ++ (keysC (stPut t.es e.n e) ++ tKeys l2)).Perm _
  rw [hke,List.append_assoc]
  have:(tKeys l1 ++ (keysC t.es ++ ([e.n] ++ tKeys l2))).Perm ([e.n] ++ (tKeys l1 ++ (keysC t.es ++ tKeys l2))):=by
   refine ((perm_mid (keysC t.es) [e.n] (tKeys l2)).append_left (tKeys l1)).trans ?_
   exact perm_mid _ _ _
  exact this
 refine ⟨fun u hu'=>?_,?_,hkeys.nodup_iff.2 (List.nodup_cons.2 ⟨hf,h.keys⟩),fun u hu'=>?_,fun n u hg=>?_,fun n hn'=>?_,?_⟩
 ·rcases hmem u hu' with rfl | hu'
  ·exact (h.tab t htm).up hn hft hu
  ·exact h.tab u hu'
 ·have ho:=h.ord
  rw [hts] at ho
  rw [List.pairwise_append,List.pairwise_cons] at ho ⊢
  exact ⟨ho.1,⟨fun x hx=>ho.2.1.1 x hx,ho.2.1.2⟩,fun x hx y hy=>by
   rcases List.mem_cons.1 hy with rfl | hy
   ·exact ho.2.2 x hx t (by simp)
   ·exact ho.2.2 x hx y (by simp [hy])⟩
 ·rcases hmem u hu' with rfl | hu'
  ·intro p hp
   have hp:p ∈ stPut t.es e.n e:=hp
   rw [stPut_new hft] at hp
   rcases List.mem_append.1 hp with hp | hp
   ·exact h.ent t htm p hp
   ·rw [List.mem_singleton] at hp
    subst hp;rfl
  ·exact h.ent u hu'
 ·replace hg:(if n = e.n then some (Value.pointer (some ⟨b,0,none⟩)) else a.g n) = some u:=hg
  split at hg
  ·rename_i e1
   subst e1
   injection hg with hg
   subst hg
   refine ⟨upT t k e cs,by simp,?_,hKt,b,rfl⟩
   show e.n ∈ keysC (stPut t.es e.n e)
   rw [hke];simp
  ·obtain ⟨w,hw,h2,h3,h4⟩:=h.g n u hg
   rw [hts] at hw
   rcases List.mem_append.1 hw with hw | hw
   ·exact ⟨w,by simp [hw],h2,hK _ _ h3,h4⟩
   ·rcases List.mem_cons.1 hw with rfl | hw
    ·refine ⟨upT w k e cs,by simp,?_,hK _ _ h3,h4⟩
     show n ∈ keysC (stPut w.es e.n e)
     rw [hke];simp [h2]
    ·exact ⟨w,by simp [hw],h2,hK _ _ h3,h4⟩
 ·have hn':=hkeys.mem_iff.1 hn'
  show (updG a.g e.n _ n).isSome = true
  unfold updG
  split
  ·rfl
  ·rename_i hne
   rcases List.mem_cons.1 hn' with e2 | hn'
   ·exact absurd e2 hne
   ·exact h.gn n hn'
 ·show a.c + 1 = _
  rw [hkeys.length_eq,List.length_cons,h.cnt]
theorem items_up {l1 l2:List Tab} {t:Tab} {e:Ent} {l:List Comp} {cs:List (StK × List (Int × List Int))} {k:StK} (h:TabOK t) (hn:0 ≤ e.n ∧ e.n < 256) (hf:e.n ∉ keysC t.es) (hks:t.ks = l.map (·.kind)) (hu:CsUp e.n l t.cs.length t.cs cs):(arItems (l1 ++ upT t k e cs :: l2)).Perm (⟨e,l⟩ :: arItems (l1 ++ t :: l2)):=by
 rw [arItems_app,arItems_cons,arItems_app,arItems_cons,tItems_up h hn hf hks hu,List.append_assoc]
 have:(arItems l1 ++ (tItems t ++ ([(⟨e,l⟩:Item)] ++ arItems l2))).Perm ([(⟨e,l⟩:Item)] ++ (arItems l1 ++ (tItems t ++ arItems l2))):=by
  refine ((perm_mid (tItems t) [(⟨e,l⟩:Item)] (arItems l2)).append_left (arItems l1)).trans ?_
  exact perm_mid _ _ _
 exact this
theorem ne_up {l1 l2:List Tab} {t:Tab} {e:Ent} {cs:List (StK × List (Int × List Int))} {k:StK} (h1:ArNE l1) (h2:ArNE l2) (hf:e.n ∉ keysC t.es):ArNE (l1 ++ upT t k e cs :: l2):=fun u hu=>by
 rcases List.mem_append.1 hu with hu | hu
 ·exact h1 u hu
 ·rcases List.mem_cons.1 hu with rfl | hu
  ·show stPut t.es e.n e ≠ []
   rw [stPut_new hf];simp
  ·exact h2 u hu
end
section
section
variable {P:Program} {ro:Option Nat} {nt:Nat} {c:Code} {Q:Exit → St → Prop} {T:List (Nat × AV)} {S:List Slot}
end
abbrev downC (n:Int) (c:StK × List (Int × List Int)):StK × List (Int × List Int):=(c.1,stDrop c.2 n)
abbrev downT (t:Tab) (n:Int):Tab:=⟨t.X,t.ks,t.ek,stDrop t.es n,t.cs.map (downC n)⟩
theorem TabOK.down {t:Tab} (h:TabOK t) (n:Int):TabOK (downT t n):=by
 refine ⟨by rw [List.length_map];exact h.len,h.ks,h.es.drop n,fun c hc=>?_,fun c hc m=>?_⟩
 ·obtain ⟨d,hd,rfl⟩:=List.mem_map.1 hc
  exact (h.cs d hd).drop n
 ·obtain ⟨d,hd,rfl⟩:=List.mem_map.1 hc
  show m ∈ keysC (stDrop d.2 n) ↔ m ∈ keysC (stDrop t.es n)
  rw [stDrop_keys (h.cs d hd),stDrop_keys h.es,h.keys d hd]
theorem tComps_down {t:Tab} (h:TabOK t) {n m:Int} (hne:m ≠ n):tComps (downT t n) m = tComps t m:=by
 have hlen:=h.len
 refine List.ext_getElem (by simp [tComps]) fun i h1 h2=>?_
 have hc:i < t.cs.length:=by simp [tComps] at h2;omega
 have hk:i < t.ks.length:=by omega
 rw [tComps_at h2 hk hc,tComps_at (t:=downT t n) h1 hk (by rw [List.length_map];exact hc)]
 show (⟨_,(stGet ((t.cs.map (downC n))[i]'(by rw [List.length_map];exact hc)).2 m).getD []⟩:Comp) = _
 rw [List.getElem_map]
 show (⟨_,(stGet (stDrop t.cs[i].2 n) m).getD []⟩:Comp) = _
 rw [stDrop_get (h.cs _ (List.getElem_mem hc)) hne]
theorem tItems_down {t:Tab} (h:TabOK t) {n:Int} {e:Ent} (hm:(n,e) ∈ t.es):(tItems t).Perm (⟨e,tComps t n⟩ :: tItems (downT t n)):=by
 have hp:=stDrop_perm h.es hm
 have h1:=hp.map fun p:Int × Ent=>(⟨p.2,tComps t p.1⟩:Item)
 refine h1.trans ?_
 rw [List.map_cons]
 refine List.Perm.cons _ (List.Perm.of_eq ?_)
 show _ = (stDrop t.es n).map fun p=>(⟨p.2,tComps (downT t n) p.1⟩:Item)
 refine List.map_congr_left fun p hp'=>?_
 have hk:p.1 ∈ keysC (stDrop t.es n):=List.mem_map.2 ⟨p,hp',rfl⟩
 rw [tComps_down h ((stDrop_keys h.es).1 hk).2]
theorem ArOK.uniq {a:Ar} (h:ArOK a) {t u:Tab} (ht:t ∈ a.ts) (hu:u ∈ a.ts) {n:Int} (h1:n ∈ keysC t.es) (h2:n ∈ keysC u.es):t = u:=by
 obtain ⟨l1,l2,e⟩:=List.append_of_mem ht
 have hk:=h.keys
 rw [e,tKeys_app,tKeys_cons] at hk
 rw [e] at hu
 rcases List.mem_append.1 hu with hu | hu
 ·have:n ∈ tKeys l1:=List.mem_flatMap.2 ⟨u,hu,h2⟩
  exact absurd rfl ((List.nodup_append.1 hk).2.2 n this n (List.mem_append_left _ h1))
 ·rcases List.mem_cons.1 hu with rfl | hu
  ·rfl
  ·have:n ∈ tKeys l2:=List.mem_flatMap.2 ⟨u,hu,h2⟩
   exact absurd rfl ((List.nodup_append.1 (List.nodup_append.1 hk).2.1).2.2 n h1 n this)
theorem down_keys {a:Ar} (h:ArOK a) {l1 l2:List Tab} {t:Tab} (hts:a.ts = l1 ++ t :: l2) {n:Int} {e:Ent} (hm:(n,e) ∈ t.es):(tKeys a.ts).Perm (n :: tKeys (l1 ++ downT t n :: l2)):=by
 have hto:=h.tab t (by rw [hts];simp)
 have hp:=(stDrop_perm hto.es hm).map (·.1)
 rw [hts,tKeys_app,tKeys_cons,tKeys_app,tKeys_cons]
 have h1:(tKeys l1 ++ (keysC t.es ++ tKeys l2)).Perm (tKeys l1 ++ ((n :: keysC (stDrop t.es n)) ++ tKeys l2)):=(hp.append_right _).append_left _
 exact h1.trans (perm_mid (tKeys l1) [n] (keysC (stDrop t.es n) ++ tKeys l2))
theorem ArOK.down {a:Ar} (h:ArOK a) {l1 l2:List Tab} {t:Tab} (hts:a.ts = l1 ++ t :: l2) {n:Int} {e:Ent} (hm:(n,e) ∈ t.es):ArOK { a with ts:=l1 ++ downT t n :: l2,g:=delG a.g n,c:=a.c - 1 }:=by
 have htm:t ∈ a.ts:=by rw [hts];simp
 have hto:=h.tab t htm
 have hkp:=down_keys h hts hm
 have hmem:∀ u,u ∈ l1 ++ downT t n :: l2 → u = downT t n ∨ u ∈ a.ts:=fun u hu=>by
  rw [hts]
  rcases List.mem_append.1 hu with hu | hu
  ·exact .inr (by simp [hu])
  ·rcases List.mem_cons.1 hu with hu | hu
   ·exact .inl hu
   ·exact .inr (by simp [hu])
 have hnd:=hkp.nodup_iff.1 h.keys
 have hnk:n ∈ keysC t.es:=List.mem_map.2 ⟨_,hm,rfl⟩
 refine ⟨fun u hu=>?_,?_,(List.nodup_cons.1 hnd).2,fun u hu=>?_,fun m u hg=>?_,fun m hm'=>?_,?_⟩
 ·rcases hmem u hu with rfl | hu
  ·exact hto.down n
  ·exact h.tab u hu
 ·have ho:=h.ord
  rw [hts] at ho
  rw [List.pairwise_append,List.pairwise_cons] at ho ⊢
  exact ⟨ho.1,⟨fun x hx=>ho.2.1.1 x hx,ho.2.1.2⟩,fun x hx y hy=>by
   rcases List.mem_cons.1 hy with rfl | hy
   ·exact ho.2.2 x hx t (by simp)
   ·exact ho.2.2 x hx y (by simp [hy])⟩
 ·rcases hmem u hu with rfl | hu
  ·intro p hp
   have:p ∈ t.es:=(stDrop_perm hto.es hm).mem_iff.2 (List.mem_cons_of_mem _ hp)
   exact h.ent t htm p this
  ·exact h.ent u hu
 ·replace hg:(if m = n then none else a.g m) = some u:=hg
  split at hg
  ·cases hg
  ·rename_i hne
   obtain ⟨w,hw,h2,h3,h4⟩:=h.g m u hg
   rw [hts] at hw
   rcases List.mem_append.1 hw with hw | hw
   ·exact ⟨w,by simp [hw],h2,h3,h4⟩
   ·rcases List.mem_cons.1 hw with rfl | hw
    ·refine ⟨downT w n,by simp,?_,h3,h4⟩
     exact (stDrop_keys hto.es).2 ⟨h2,hne⟩
    ·exact ⟨w,by simp [hw],h2,h3,h4⟩
 ·have hm2:m ∈ tKeys a.ts:=hkp.mem_iff.2 (List.mem_cons_of_mem _ hm')
  have hne:m ≠ n:=fun e=>(List.nodup_cons.1 hnd).1 (by subst e;exact hm')
  show (delG a.g n m).isSome = true
  unfold delG
  rw [if_neg hne]
  exact h.gn m hm2
 ·show a.c - 1 = (tKeys (l1 ++ downT t n :: l2)).length
  have:=hkp.length_eq
  rw [List.length_cons] at this
  have:=h.cnt
  omega
theorem ArOK.less {a:Ar} (h:ArOK a) {l1 l2:List Tab} {t:Tab} {Y:Nat} (hts:a.ts = l1 ++ t :: l2) (he:t.es = []):ArOK { a with Tb:=Y,ts:=l1 ++ l2 }:=by
 have hk:tKeys a.ts = tKeys (l1 ++ l2):=by rw [hts,tKeys_app,tKeys_cons,he,tKeys_app];rfl
 have hmem:∀ u,u ∈ l1 ++ l2 → u ∈ a.ts:=fun u hu=>by
  rw [hts]
  rcases List.mem_append.1 hu with hu | hu <;> simp [hu]
 refine ⟨fun u hu=>h.tab u (hmem u hu),?_,by rw [← hk];exact h.keys,fun u hu=>h.ent u (hmem u hu),fun m u hg=>?_,fun m hm=>h.gn m (by rw [hk];exact hm),by rw [← hk];exact h.cnt⟩
 ·have ho:=h.ord
  rw [hts] at ho
  exact ho.sublist ((List.Sublist.refl l1).append (List.sublist_cons_self t l2))
 ·obtain ⟨w,hw,h2,h3⟩:=h.g m u hg
  rw [hts] at hw
  rcases List.mem_append.1 hw with hw | hw
  ·exact ⟨w,by simp [hw],h2,h3⟩
  ·rcases List.mem_cons.1 hw with rfl | hw
   ·rw [he] at h2;cases h2
   ·exact ⟨w,by simp [hw],h2,h3⟩
theorem items_down {a:Ar} (h:ArOK a) {l1 l2:List Tab} {t:Tab} (hts:a.ts = l1 ++ t :: l2) {n:Int} {e:Ent} (hm:(n,e) ∈ t.es):(arItems a.ts).Perm (⟨e,tComps t n⟩ :: arItems (l1 ++ downT t n :: l2)):=by
 have hto:=h.tab t (by rw [hts];simp)
 rw [hts,arItems_app,arItems_cons,arItems_app,arItems_cons]
 refine (((tItems_down hto hm).append_right _).append_left _).trans ?_
 exact perm_mid (arItems l1) [(⟨e,tComps t n⟩:Item)] (tItems (downT t n) ++ arItems l2)
theorem items_less {l1 l2:List Tab} {t:Tab} (he:t.es = []):arItems (l1 ++ t :: l2) = arItems (l1 ++ l2):=by
 rw [arItems_app,arItems_cons,tItems,he,arItems_app];rfl
end
theorem clenE_sp (k:StK) (l:List (Int × Ent)):Spec Tryz.prog 168 [.ptr k.X 0 0] (stE k l) fun r S'=>r = iA (l.length:Nat) ∧ S' = stE k l:=by
 refine Spec.of (nt:=8) (res:=[.tmp 2]) Tryz.func168 rfl (by kernel_rfl) rfl rfl rfl fun Sf=>?_
 (repeat refine WF ?_);refine AWP.region ?_;(repeat (first | refine WO ?_ | refine All.i fun X=>?_ | refine AllY.i fun Y=>?_));refine AOps.nil ?_;(repeat refine WN ?_)
 (repeat first | refine AOps.nil ?_ | refine WF ?_)
 (repeat refine WF ?_);refine AWP.region ?_;(repeat (first | refine WO ?_ | refine All.i fun X=>?_ | refine AllY.i fun Y=>?_));refine AOps.nil ?_;(repeat refine WN ?_)
 (refine AWP.ret ?_;(repeat (first | refine inB_r ?_ | refine andThen_r ?_));refine retQ_r ?_)
 exact Ends.sp [iA (l.length:Nat)] (stE k l) ⟨rfl,rfl⟩
theorem getE_yes (k:StK) (l:List (Int × Ent)) (hl:ColOK l) (n:Int) (hn:I64 n) (v:Ent) (hg:stGet l n = some v):Spec Tryz.prog 163 [.ptr k.X 0 0,iA n] (stE k l) fun r S'=>r = .tup [entA v,bA true] ∧ S' = stE k l:=by
 have hlen:=hl.len
 have hk:n ∈ keysC l:=Classical.byContradiction fun h=>by rw [stGet_none h] at hg;cases hg
 obtain ⟨u,hv⟩:=idx_at hk
 have hi:=idx_lt hk
 have hg2:stGet l n = some u:=by unfold stGet;rw [hv];rfl
 rw [hg] at hg2
 injection hg2 with hg2
 subst hg2
 have hat:(l.map fun e=>entA e.2)[(keysC l).idxOf n]? = some (entA v):=by rw [List.getElem?_map,hv];rfl
 have hix:=ixG_mem hk
 obtain ⟨i,hi2⟩:∃ i,(keysC l).idxOf n = i:=⟨_,rfl⟩
 rw [hi2] at hi hat hix
 have h1:(ixG (keysC l) n).getD (.int .i64 0) = .int .i64 (i:Nat):=by rw [hix];rfl
 have h2:(ixG (keysC l) n).isSome = true:=by rw [hix];rfl
 refine Spec.of (nt:=28) (res:=[.cell 4 32,.tmp 5]) Tryz.func163 rfl (by kernel_rfl) rfl rfl rfl fun Sf=>?_
 (repeat refine WF ?_);refine AWP.region ?_;(repeat (first | refine WO ?_ | refine All.i fun Z=>?_ | refine AllY.i fun Y=>?_));refine AOps.nil ?_;(repeat refine WN ?_)
 (repeat first | refine AOps.nil ?_ | refine WF ?_)
 (repeat refine WF ?_);refine AWP.region ?_;(repeat (first | (refine AOps.gN ?_;first | refine AOps.go (h:=W.look2 _ _ h1 h2 hn rfl rfl (by exact At.f)) (k:=?_)) | refine WO ?_ | refine All.i fun X=>?_ | refine AllY.i fun Y=>?_));refine AOps.nil ?_;(repeat refine WN ?_)
 (repeat first | refine AOps.nil ?_ | refine WF ?_)
 (repeat refine WF ?_);refine AWP.region ?_;(repeat (first | refine WO ?_ | refine All.i fun X=>?_ | refine AllY.i fun Y=>?_));refine AOps.nil ?_;(repeat refine WN ?_)
 (repeat first | refine AOps.nil ?_ | refine WF ?_)
 refine AWP.cond_f rfl rfl ?_
 (repeat first | refine AOps.nil ?_ | refine WF ?_)
 (repeat refine WF ?_);refine AWP.region ?_;(repeat (first | (refine AOps.gN ?_;first | refine AOps.go (h:=W.idx rfl rfl (by exact At.f) rfl (by omega) (Nat.zero_add _)) (k:=?_)) | refine WO ?_ | refine All.i fun X=>?_ | refine AllY.i fun Y=>?_));refine AOps.nil ?_;(repeat refine WN ?_)
 (refine AWP.ret ?_;(repeat (first | refine inB_r ?_ | refine andThen_r ?_));refine retQ_r ?_)
 exact Ends.sp [entA v,bA true] (stE k l) ⟨rfl,rfl⟩
theorem dropE_sp (k:StK) (l:List (Int × Ent)) (hl:ColOK l) (n:Int) (hn:I64 n):Spec Tryz.prog 166 [.ptr k.X 0 0,iA n] (stE k l) fun r S'=>r = iA (if n ∈ keysC l then 0 else 4) ∧ S' = stE k (stDrop l n):=by
 have hlen:=hl.len
 by_cases hk:n ∈ keysC l
 ·rw [if_pos hk]
  obtain ⟨u,hu⟩:=idx_at hk
  have hi:=idx_lt hk
  obtain ⟨⟨en,ev⟩,he⟩:=last_at (l:=l) (by omega)
  have hdl:=stDrop_len hk
  have hdr:stDrop l n = (l.set ((keysC l).idxOf n) (en,ev)).take (l.length - 1):=by unfold stDrop;rw [if_pos hk,he]
  rw [hdr] at hdl ⊢
  have hix:=ixG_mem hk
  obtain ⟨i,hi2⟩:∃ i,(keysC l).idxOf n = i:=⟨_,rfl⟩
  rw [hi2] at hi hu hix hdl ⊢
  have hkl:(keysC l).length = l.length:=List.length_map _
  have hki:(keysC l)[i]? = some n:=by rw [keysC,List.getElem?_map,hu];rfl
  have hke:(keysC l)[(keysC l).length - 1]? = some en:=by rw [hkl,keysC,List.getElem?_map,he];rfl
  have hgd:=ixG_drop hl.nd hki hke
  have h1:(ixG (keysC l) n).getD (.int .i64 0) = .int .i64 (i:Nat):=by rw [hix];rfl
  have h2:(ixG (keysC l) n).isSome = true:=by rw [hix];rfl
  have hem:en ∈ keysC l:=List.mem_of_getElem? hke
  have hen:=hl.lt en hem
  have h3:(ixG (keysC l) en).isSome = true:=by rw [ixG_mem hem];rfl
  have hsz:(if (ixG (keysC l) en).isSome then l.length else l.length + 1) = l.length:=by rw [h3];rfl
  have h4:(updG (ixG (keysC l)) en (.int .i64 (i:Nat)) n).isSome = true:=by
   unfold updG
   split
   ·rfl
   ·exact h2
  have hsz2:(if (updG (ixG (keysC l)) en (.int .i64 (i:Nat)) n).isSome then l.length else l.length) = l.length:=by split <;> rfl
  have hsz3:(if (updG (ixG (keysC l)) en (.int .i64 (i:Nat)) n).isSome then l.length - 1 else l.length) = l.length - 1:=by rw [h4];rfl
  have hmx:l.length < maxLen:=by unfold maxLen;omega
  have hmi:i < maxLen:=by unfold maxLen;omega
  have hr1:(l.map fun e=>iA e.1)[l.length - 1]? = some (iA en):=by rw [List.getElem?_map,he];rfl
  have hv1:(l.map fun e=>entA e.2)[l.length - 1]? = some (entA ev):=by rw [List.getElem?_map,he];rfl
  have hrs:(l.map fun e=>iA e.1).set i (iA en) = (l.set i (en,ev)).map fun e=>iA e.1:=by rw [List.map_set]
  have hvs:(l.map fun e=>entA e.2).set i (entA ev) = (l.set i (en,ev)).map fun e=>entA e.2:=by rw [List.map_set]
  have hri:((l.set i (en,ev)).map fun e=>iA e.1)[i]? = some (iA en):=by rw [List.getElem?_map,List.getElem?_set_self hi];rfl
  have hrl:(l.map fun e=>iA e.1).length = l.length:=List.length_map _
  have hvl:(l.map fun e=>entA e.2).length = l.length:=List.length_map _
  have hvz:((l.map fun e=>entA e.2).set i (entA ev))[l.length - 1]? = some (entA ev):=by
   rw [hvs];rw [List.getElem?_map]
   by_cases h:i = l.length - 1
   ·rw [← h,List.getElem?_set_self hi];rfl
   ·rw [List.getElem?_set_ne h,he];rfl
  have hvt:(((l.map fun e=>entA e.2).set i (entA ev)).set (l.length - 1) (entA ⟨0,0⟩)).take (l.length - 1) = ((l.set i (en,ev)).take (l.length - 1)).map fun e=>entA e.2:=by
   rw [hvs];rw [List.take_set_of_le (Nat.le_refl _),List.map_take]
  have hrt:((l.set i (en,ev)).map fun e=>iA e.1).take (l.length - 1) = ((l.set i (en,ev)).take (l.length - 1)).map fun e=>iA e.1:=by rw [List.map_take]
  have hkt:ixG (((keysC l).set i en).take ((keysC l).length - 1)) = ixG (keysC ((l.set i (en,ev)).take (l.length - 1))):=by
   rw [hkl,keysC,keysC,List.map_take,List.map_set]
  refine Spec.of (nt:=94) (res:=[.tmp 4]) Tryz.func166 rfl (by kernel_rfl) rfl rfl rfl fun Sf=>?_
  (repeat refine WF ?_);refine AWP.region ?_;(repeat (first | refine WO ?_ | refine All.i fun X=>?_ | refine AllY.i fun Y=>?_));refine AOps.nil ?_;(repeat refine WN ?_)
  (repeat first | refine AOps.nil ?_ | refine WF ?_)
  (repeat refine WF ?_);refine AWP.region ?_;(repeat (first | (refine AOps.gN ?_;first | refine AOps.go (h:=W.look2 _ _ h1 h2 hn rfl rfl (by exact At.f)) (k:=?_)) | refine WO ?_ | refine All.i fun X=>?_ | refine AllY.i fun Y=>?_));refine AOps.nil ?_;(repeat refine WN ?_)
  (repeat first | refine AOps.nil ?_ | refine WF ?_)
  (repeat refine WF ?_);refine AWP.region ?_;(repeat (first | refine WO ?_ | refine All.i fun X=>?_ | refine AllY.i fun Y=>?_));refine AOps.nil ?_;(repeat refine WN ?_)
  (repeat first | refine AOps.nil ?_ | refine WF ?_)
  refine AWP.cond_f rfl rfl ?_
  (repeat first | refine AOps.nil ?_ | refine WF ?_)
  (repeat refine WF ?_);refine AWP.region ?_;(repeat (first | (refine AOps.gN ?_;first | refine AOps.go (h:=W.subE ((l.length - 1:Nat):Int) (by omega) (by omega) rfl rfl) (k:=?_)) | refine WO ?_ | refine All.i fun X=>?_ | refine AllY.i fun Y=>?_));refine AOps.nil ?_;(repeat refine WN ?_)
  (repeat first | refine AOps.nil ?_ | refine WF ?_)
  (repeat refine WF ?_);refine AWP.region_run (by kernel_rfl) (by kernel_rfl) ?_;(repeat (first | (refine RGo.gN ?_;first | refine RGo.go (h:=W.idx (a:=l.length - 1) rfl rfl (by exact At.f) rfl (by omega) (Nat.zero_add _)) (k:=?_) | refine RGo.go (h:=W.idx (a:=i) rfl rfl (by exact At.f) rfl (by omega) (Nat.zero_add _)) (k:=?_)) | (refine RGo.gQ ?_;first | refine RGo.go (h:=W.idx (a:=l.length - 1) rfl rfl (by exact At.f) rfl (by omega) (Nat.zero_add _)) (k:=?_) | refine RGo.go (h:=W.idx (a:=i) rfl rfl (by exact At.f) rfl (by omega) (Nat.zero_add _)) (k:=?_)) | refine RK ?_ | refine RGo.nil (by kernel_rfl) ?_))
  rw [hrs]
  (repeat first | refine AOps.nil ?_ | refine WF ?_)
  (repeat refine WF ?_);refine AWP.region_run (by kernel_rfl) (by kernel_rfl) ?_;(repeat (first | (refine RGo.gN ?_;first | refine RGo.go (h:=W.idx (a:=i) rfl rfl (by exact At.f) rfl (by omega) (Nat.zero_add _)) (k:=?_) | refine RGo.goS (h:=W.mapUpd (PlainV.int (by kernel_rfl) (i64_wf (by omega))) (by omega) hmx rfl rfl rfl (by exact At.f)) (k:=?_)) | (refine RGo.gQ ?_;first | refine RGo.go (h:=W.idx (a:=i) rfl rfl (by exact At.f) rfl (by omega) (Nat.zero_add _)) (k:=?_) | refine RGo.goS (h:=W.mapUpd (PlainV.int (by kernel_rfl) (i64_wf (by omega))) (by omega) hmx rfl rfl rfl (by exact At.f)) (k:=?_)) | refine RK ?_ | refine RGo.nil (by kernel_rfl) ?_))
  rw [hsz]
  (repeat first | refine AOps.nil ?_ | refine WF ?_)
  (repeat refine WF ?_);refine AWP.region ?_;(repeat (first | (refine AOps.gN ?_;first | refine AOps.goS (h:=W.mapDel hn rfl rfl (by exact At.f)) (k:=?_)) | refine WO ?_ | refine All.i fun X=>?_ | refine AllY.i fun Y=>?_));refine AOps.nil ?_;(repeat refine WN ?_)
  rw [hsz3,hgd]
  (repeat first | refine AOps.nil ?_ | refine WF ?_)
  (repeat refine WF ?_);refine AWP.region ?_;(repeat (first | refine WO ?_ | refine All.i fun Z=>?_ | refine AllY.i fun Y=>?_));refine AOps.nil ?_;(repeat refine WN ?_)
  (repeat first | refine AOps.nil ?_ | refine WF ?_)
  (repeat refine WF ?_);refine AWP.region_run (by kernel_rfl) (by kernel_rfl) ?_;(repeat (first | (refine RGo.gN ?_;first | refine RGo.go (h:=W.idx (a:=l.length - 1) rfl rfl (by exact At.f) rfl (by omega) (Nat.zero_add _)) (k:=?_)) | (refine RGo.gQ ?_;first | refine RGo.go (h:=W.idx (a:=l.length - 1) rfl rfl (by exact At.f) rfl (by omega) (Nat.zero_add _)) (k:=?_)) | refine RK ?_ | refine RGo.nil (by kernel_rfl) ?_))
  (repeat first | refine AOps.nil ?_ | refine WF ?_)
  (repeat refine WF ?_);refine AWP.region_run (by kernel_rfl) (by kernel_rfl) ?_;(repeat (first | (refine RGo.gN ?_;first | refine RGo.go (h:=W.hi (a:=l.length - 1) rfl rfl (by exact At.f) rfl (by omega)) (k:=?_)) | (refine RGo.gQ ?_;first | refine RGo.go (h:=W.hi (a:=l.length - 1) rfl rfl (by exact At.f) rfl (by omega)) (k:=?_)) | refine RK ?_ | refine RGo.nil (by kernel_rfl) ?_))
  (repeat first | refine AOps.nil ?_ | refine WF ?_)
  (repeat refine WF ?_);refine AWP.region ?_;(repeat (first | refine WO ?_ | refine All.i fun X=>?_ | refine AllY.i fun Y=>?_));refine AOps.nil ?_;(repeat refine WN ?_)
  refine AWP.shrink (X:=k.V) (l.length - 1) ?_
  refine AWP.shrink (X:=k.R) (l.length - 1) ?_
  refine AWP.front k.M ?_;refine AWP.front k.R ?_;refine AWP.front k.V ?_;refine AWP.front k.X ?_
  (refine AWP.ret ?_;(repeat (first | refine inB_r ?_ | refine andThen_r ?_));refine retQ_r ?_)
  exact Ends.sp [iA 0] _ ⟨rfl,stE_mk (n:=l.length - 1) (m:=l.length - 1) (c:=l.length - 1) hdl.symm hdl.symm hvt hrt hkt hdl.symm⟩
 ·rw [if_neg hk,stDrop_no hk]
  have hix:=ixG_no hk
  have h1:(ixG (keysC l) n).getD (.int .i64 0) = .int .i64 0:=by rw [hix];rfl
  have h2:(ixG (keysC l) n).isSome = false:=by rw [hix];rfl
  refine Spec.of (nt:=94) (res:=[.tmp 4]) Tryz.func166 rfl (by kernel_rfl) rfl rfl rfl fun Sf=>?_
  (repeat refine WF ?_);refine AWP.region ?_;(repeat (first | refine WO ?_ | refine All.i fun X=>?_ | refine AllY.i fun Y=>?_));refine AOps.nil ?_;(repeat refine WN ?_)
  (repeat first | refine AOps.nil ?_ | refine WF ?_)
  (repeat refine WF ?_);refine AWP.region ?_;(repeat (first | (refine AOps.gN ?_;first | refine AOps.go (h:=W.look2 _ _ h1 h2 hn rfl rfl (by exact At.f)) (k:=?_)) | refine WO ?_ | refine All.i fun X=>?_ | refine AllY.i fun Y=>?_));refine AOps.nil ?_;(repeat refine WN ?_)
  (repeat first | refine AOps.nil ?_ | refine WF ?_)
  (repeat refine WF ?_);refine AWP.region ?_;(repeat (first | refine WO ?_ | refine All.i fun X=>?_ | refine AllY.i fun Y=>?_));refine AOps.nil ?_;(repeat refine WN ?_)
  (repeat first | refine AOps.nil ?_ | refine WF ?_)
  refine AWP.cond_t rfl rfl ?_
  (repeat (first | refine WK ?_ | refine All.i fun X=>?_ | refine AllY.i fun Y=>?_))
  (refine AWP.ret ?_;(repeat (first | refine inB_r ?_ | refine andThen_r ?_));refine retQ_r ?_)
  exact Ends.sp [iA 4] (stE k l) ⟨rfl,rfl⟩
theorem dropS_sp (k:StK) (l:List (Int × List Int)) (hl:ColOK l) (n:Int) (hn:I64 n):Spec Tryz.prog 167 [.ptr k.X 0 0,iA n] (stS k l) fun r S'=>r = iA (if n ∈ keysC l then 0 else 4) ∧ S' = stS k (stDrop l n):=by
 have hlen:=hl.len
 by_cases hk:n ∈ keysC l
 ·rw [if_pos hk]
  obtain ⟨u,hu⟩:=idx_at hk
  have hi:=idx_lt hk
  obtain ⟨⟨en,ev⟩,he⟩:=last_at (l:=l) (by omega)
  have hdl:=stDrop_len hk
  have hdr:stDrop l n = (l.set ((keysC l).idxOf n) (en,ev)).take (l.length - 1):=by unfold stDrop;rw [if_pos hk,he]
  rw [hdr] at hdl ⊢
  have hix:=ixG_mem hk
  obtain ⟨i,hi2⟩:∃ i,(keysC l).idxOf n = i:=⟨_,rfl⟩
  rw [hi2] at hi hu hix hdl ⊢
  have hkl:(keysC l).length = l.length:=List.length_map _
  have hki:(keysC l)[i]? = some n:=by rw [keysC,List.getElem?_map,hu];rfl
  have hke:(keysC l)[(keysC l).length - 1]? = some en:=by rw [hkl,keysC,List.getElem?_map,he];rfl
  have hgd:=ixG_drop hl.nd hki hke
  have h1:(ixG (keysC l) n).getD (.int .i64 0) = .int .i64 (i:Nat):=by rw [hix];rfl
  have h2:(ixG (keysC l) n).isSome = true:=by rw [hix];rfl
  have hem:en ∈ keysC l:=List.mem_of_getElem? hke
  have hen:=hl.lt en hem
  have h3:(ixG (keysC l) en).isSome = true:=by rw [ixG_mem hem];rfl
  have hsz:(if (ixG (keysC l) en).isSome then l.length else l.length + 1) = l.length:=by rw [h3];rfl
  have h4:(updG (ixG (keysC l)) en (.int .i64 (i:Nat)) n).isSome = true:=by
   unfold updG
   split
   ·rfl
   ·exact h2
  have hsz2:(if (updG (ixG (keysC l)) en (.int .i64 (i:Nat)) n).isSome then l.length else l.length) = l.length:=by split <;> rfl
  have hsz3:(if (updG (ixG (keysC l)) en (.int .i64 (i:Nat)) n).isSome then l.length - 1 else l.length) = l.length - 1:=by rw [h4];rfl
  have hmx:l.length < maxLen:=by unfold maxLen;omega
  have hmi:i < maxLen:=by unfold maxLen;omega
  have hr1:(l.map fun e=>iA e.1)[l.length - 1]? = some (iA en):=by rw [List.getElem?_map,he];rfl
  have hv1:(l.map fun e=>intsA false e.2)[l.length - 1]? = some (intsA false ev):=by rw [List.getElem?_map,he];rfl
  have hrs:(l.map fun e=>iA e.1).set i (iA en) = (l.set i (en,ev)).map fun e=>iA e.1:=by rw [List.map_set]
  have hvs:(l.map fun e=>intsA false e.2).set i (intsA false ev) = (l.set i (en,ev)).map fun e=>intsA false e.2:=by rw [List.map_set]
  have hri:((l.set i (en,ev)).map fun e=>iA e.1)[i]? = some (iA en):=by rw [List.getElem?_map,List.getElem?_set_self hi];rfl
  have hrl:(l.map fun e=>iA e.1).length = l.length:=List.length_map _
  have hvl:(l.map fun e=>intsA false e.2).length = l.length:=List.length_map _
  have hvz:((l.set i (en,ev)).map fun e=>intsA false e.2)[l.length - 1]? = some (intsA false ev):=by
   rw [List.getElem?_map]
   by_cases h:i = l.length - 1
   ·rw [← h,List.getElem?_set_self hi];rfl
   ·rw [List.getElem?_set_ne h,he];rfl
  have hvt:(((l.set i (en,ev)).map fun e=>intsA false e.2).set (l.length - 1) (.prim (.slice none 0 0))).take (l.length - 1) = ((l.set i (en,ev)).take (l.length - 1)).map fun e=>intsA false e.2:=by
   rw [List.take_set_of_le (Nat.le_refl _),List.map_take]
  have hrt:((l.set i (en,ev)).map fun e=>iA e.1).take (l.length - 1) = ((l.set i (en,ev)).take (l.length - 1)).map fun e=>iA e.1:=by rw [List.map_take]
  have hkt:ixG (((keysC l).set i en).take ((keysC l).length - 1)) = ixG (keysC ((l.set i (en,ev)).take (l.length - 1))):=by
   rw [hkl,keysC,keysC,List.map_take,List.map_set]
  refine Spec.of (nt:=94) (res:=[.tmp 4]) Tryz.func167 rfl (by kernel_rfl) rfl rfl rfl fun Sf=>?_
  (repeat refine WF ?_);refine AWP.region ?_;(repeat (first | refine WO ?_ | refine All.i fun X=>?_ | refine AllY.i fun Y=>?_));refine AOps.nil ?_;(repeat refine WN ?_)
  (repeat first | refine AOps.nil ?_ | refine WF ?_)
  (repeat refine WF ?_);refine AWP.region ?_;(repeat (first | (refine AOps.gN ?_;first | refine AOps.go (h:=W.look2 _ _ h1 h2 hn rfl rfl (by exact At.f)) (k:=?_)) | refine WO ?_ | refine All.i fun X=>?_ | refine AllY.i fun Y=>?_));refine AOps.nil ?_;(repeat refine WN ?_)
  (repeat first | refine AOps.nil ?_ | refine WF ?_)
  (repeat refine WF ?_);refine AWP.region ?_;(repeat (first | refine WO ?_ | refine All.i fun X=>?_ | refine AllY.i fun Y=>?_));refine AOps.nil ?_;(repeat refine WN ?_)
  (repeat first | refine AOps.nil ?_ | refine WF ?_)
  refine AWP.cond_f rfl rfl ?_
  (repeat first | refine AOps.nil ?_ | refine WF ?_)
  (repeat refine WF ?_);refine AWP.region ?_;(repeat (first | (refine AOps.gN ?_;first | refine AOps.go (h:=W.subE ((l.length - 1:Nat):Int) (by omega) (by omega) rfl rfl) (k:=?_)) | refine WO ?_ | refine All.i fun X=>?_ | refine AllY.i fun Y=>?_));refine AOps.nil ?_;(repeat refine WN ?_)
  (repeat first | refine AOps.nil ?_ | refine WF ?_)
  (repeat refine WF ?_);refine AWP.region_run (by kernel_rfl) (by kernel_rfl) ?_;(repeat (first | (refine RGo.gN ?_;first | refine RGo.go (h:=W.idx (a:=l.length - 1) rfl rfl (by exact At.f) rfl (by omega) (Nat.zero_add _)) (k:=?_) | refine RGo.go (h:=W.idx (a:=i) rfl rfl (by exact At.f) rfl (by omega) (Nat.zero_add _)) (k:=?_)) | (refine RGo.gQ ?_;first | refine RGo.go (h:=W.idx (a:=l.length - 1) rfl rfl (by exact At.f) rfl (by omega) (Nat.zero_add _)) (k:=?_) | refine RGo.go (h:=W.idx (a:=i) rfl rfl (by exact At.f) rfl (by omega) (Nat.zero_add _)) (k:=?_)) | refine RK ?_ | refine RGo.nil (by kernel_rfl) ?_))
  rw [hrs,hvs]
  (repeat first | refine AOps.nil ?_ | refine WF ?_)
  (repeat refine WF ?_);refine AWP.region_run (by kernel_rfl) (by kernel_rfl) ?_;(repeat (first | (refine RGo.gN ?_;first | refine RGo.go (h:=W.idx (a:=i) rfl rfl (by exact At.f) rfl (by omega) (Nat.zero_add _)) (k:=?_) | refine RGo.goS (h:=W.mapUpd (PlainV.int (by kernel_rfl) (i64_wf (by omega))) (by omega) hmx rfl rfl rfl (by exact At.f)) (k:=?_)) | (refine RGo.gQ ?_;first | refine RGo.go (h:=W.idx (a:=i) rfl rfl (by exact At.f) rfl (by omega) (Nat.zero_add _)) (k:=?_) | refine RGo.goS (h:=W.mapUpd (PlainV.int (by kernel_rfl) (i64_wf (by omega))) (by omega) hmx rfl rfl rfl (by exact At.f)) (k:=?_)) | refine RK ?_ | refine RGo.nil (by kernel_rfl) ?_))
  rw [hsz]
  (repeat first | refine AOps.nil ?_ | refine WF ?_)
  (repeat refine WF ?_);refine AWP.region ?_;(repeat (first | (refine AOps.gN ?_;first | refine AOps.goS (h:=W.mapDel hn rfl rfl (by exact At.f)) (k:=?_)) | refine WO ?_ | refine All.i fun X=>?_ | refine AllY.i fun Y=>?_));refine AOps.nil ?_;(repeat refine WN ?_)
  rw [hsz3,hgd]
  (repeat first | refine AOps.nil ?_ | refine WF ?_)
  (repeat refine WF ?_);refine AWP.region ?_;(repeat (first | refine WO ?_ | refine All.i fun X=>?_ | refine AllY.i fun Y=>?_));refine AOps.nil ?_;(repeat refine WN ?_)
  (repeat first | refine AOps.nil ?_ | refine WF ?_)
  (repeat refine WF ?_);refine AWP.region ?_;(repeat (first | (refine AOps.gN ?_;first | refine AOps.go (h:=W.idx (a:=l.length - 1) rfl rfl (by exact At.f) rfl (by omega) (Nat.zero_add _)) (k:=?_)) | refine WO ?_ | refine All.i fun X=>?_ | refine AllY.i fun Y=>?_));refine AOps.nil ?_;(repeat refine WN ?_)
  (repeat first | refine AOps.nil ?_ | refine WF ?_)
  (repeat refine WF ?_);refine AWP.region_run (by kernel_rfl) (by kernel_rfl) ?_;(repeat (first | (refine RGo.gN ?_;first | refine RGo.go (h:=W.hi (a:=l.length - 1) rfl rfl (by exact At.f) rfl (by omega)) (k:=?_)) | (refine RGo.gQ ?_;first | refine RGo.go (h:=W.hi (a:=l.length - 1) rfl rfl (by exact At.f) rfl (by omega)) (k:=?_)) | refine RK ?_ | refine RGo.nil (by kernel_rfl) ?_))
  (repeat first | refine AOps.nil ?_ | refine WF ?_)
  (repeat refine WF ?_);refine AWP.region ?_;(repeat (first | refine WO ?_ | refine All.i fun X=>?_ | refine AllY.i fun Y=>?_));refine AOps.nil ?_;(repeat refine WN ?_)
  refine AWP.shrink (X:=k.V) (l.length - 1) ?_
  refine AWP.shrink (X:=k.R) (l.length - 1) ?_
  refine AWP.front k.M ?_;refine AWP.front k.R ?_;refine AWP.front k.V ?_;refine AWP.front k.X ?_
  (refine AWP.ret ?_;(repeat (first | refine inB_r ?_ | refine andThen_r ?_));refine retQ_r ?_)
  exact Ends.sp [iA 0] _ ⟨rfl,stS_mk (n:=l.length - 1) (m:=l.length - 1) (c:=l.length - 1) hdl.symm hdl.symm hvt hrt hkt hdl.symm⟩
 ·rw [if_neg hk,stDrop_no hk]
  have hix:=ixG_no hk
  have h1:(ixG (keysC l) n).getD (.int .i64 0) = .int .i64 0:=by rw [hix];rfl
  have h2:(ixG (keysC l) n).isSome = false:=by rw [hix];rfl
  refine Spec.of (nt:=94) (res:=[.tmp 4]) Tryz.func167 rfl (by kernel_rfl) rfl rfl rfl fun Sf=>?_
  (repeat refine WF ?_);refine AWP.region ?_;(repeat (first | refine WO ?_ | refine All.i fun X=>?_ | refine AllY.i fun Y=>?_));refine AOps.nil ?_;(repeat refine WN ?_)
  (repeat first | refine AOps.nil ?_ | refine WF ?_)
  (repeat refine WF ?_);refine AWP.region ?_;(repeat (first | (refine AOps.gN ?_;first | refine AOps.go (h:=W.look2 _ _ h1 h2 hn rfl rfl (by exact At.f)) (k:=?_)) | refine WO ?_ | refine All.i fun X=>?_ | refine AllY.i fun Y=>?_));refine AOps.nil ?_;(repeat refine WN ?_)
  (repeat first | refine AOps.nil ?_ | refine WF ?_)
  (repeat refine WF ?_);refine AWP.region ?_;(repeat (first | refine WO ?_ | refine All.i fun X=>?_ | refine AllY.i fun Y=>?_));refine AOps.nil ?_;(repeat refine WN ?_)
  (repeat first | refine AOps.nil ?_ | refine WF ?_)
  refine AWP.cond_t rfl rfl ?_
  (repeat (first | refine WK ?_ | refine All.i fun X=>?_ | refine AllY.i fun Y=>?_))
  (refine AWP.ret ?_;(repeat (first | refine inB_r ?_ | refine andThen_r ?_));refine retQ_r ?_)
  exact Ends.sp [iA 4] (stS k l) ⟨rfl,rfl⟩
set_option maxHeartbeats 1000000 in
theorem insertQ_sp (X V n i:Nat) (l:List AV) (e:AV) (hn:n = l.length) (hi:i ≤ n) (hb:(n + 1) * 8 ≤ 140737488355328) (hfr:FreeL l) (hfe:FreeE e) (hw:∀ x ∈ l,x.width = 1) (hwe:e.width = 1) (hze:AV.frzs [e] = [e]) :
  Spec Tryz.prog 91 [.sl X 0 n,iA i,.sl V 0 1] [(X,.row 109 1 l),(V,.row 109 1 [e])] fun r S'=>r = .lst true 109 1 (l.take i ++ e :: l.drop i) ∧ S' = []:=by
 refine Spec.of (nt:=95) (res:=[.tmp 6]) Tryz.func91 rfl (by kernel_rfl) rfl rfl rfl fun Sf=>?_
 have hfV:FreeL [e]:=fun x hx=>by rw [List.mem_singleton.1 hx];exact hfe
 have hwV:∀ x ∈ [e],x.width = 1:=fun x hx=>by rw [List.mem_singleton.1 hx];exact hwe
 (repeat refine WF ?_);refine AWP.region ?_;(repeat (first | refine WO ?_ | refine All.i fun X=>?_ | refine AllY.i fun Y=>?_));refine AOps.nil ?_;(repeat refine WN ?_)
 (repeat refine WF ?_);refine AWP.region ?_;(repeat (first | (refine AOps.gN ?_;first | refine AOps.p (W.slice_lo rfl rfl (by exact At.f) rfl (by omega)) rfl ?_) | refine WO ?_ | refine All.i fun X=>?_ | refine AllY.i fun Y=>?_));refine AOps.nil ?_;(repeat refine WN ?_)
 (repeat refine WF ?_);refine AWP.region ?_;(repeat (first | refine WO ?_ | refine All.i fun X=>?_ | refine AllY.i fun Y=>?_));refine AOps.nil ?_;(repeat refine WN ?_)
 (repeat refine WF ?_);refine AWP.region ?_;(repeat (first | refine WO ?_ | refine All.i fun X=>?_ | refine AllY.i fun Y=>?_));refine AOps.nil ?_;(repeat refine WN ?_)
 refine AWP.cond_f rfl rfl ?_
 (repeat refine WF ?_);refine AWP.region ?_;(repeat (first | refine WO ?_ | refine All.i fun X=>?_ | refine AllY.i fun Y=>?_));refine AOps.nil ?_;(repeat refine WN ?_)
 (repeat refine WF ?_);refine AWP.region ?_;(repeat (first | refine WO ?_ | refine All.i fun X=>?_ | refine AllY.i fun Y=>?_));refine AOps.nil ?_;(repeat refine WN ?_)
 by_cases hin:i = n
 ·refine AWP.cond_t rfl (decide_eq_true (by omega)) ?_
  refine AWP.iceL 2 [e] hze ?_
  have hbb:(n + [e].length) * 8 ≤ 140737488355328:=hb
  (repeat (first | refine WK ?_ | refine All.i fun X=>?_ | refine AllY.i fun Y=>?_))
  (refine AWP.ret ?_;(repeat (first | refine inB_r ?_ | refine andThen_r ?_));refine retQ_r ?_)
  have hm:n + [e].length = (l ++ [e]).length:=by rw [List.length_append,hn]
  have hr:l ++ [e] = l.take i ++ e :: l.drop i:=by rw [hin,hn,List.take_length,List.drop_length]
  rw [← hr]
  exact ⟨[.sl Y 0 (n + [e].length)],[.lst true 109 1 (l ++ [e])],_,[],.cons (.tmp rfl) rfl .nil,.cons (.cell (.sl (p:=0) .here hm)) .nil,by exact Sub.f,rfl,rfl⟩
 ·refine AWP.cond_f rfl (decide_eq_false (by omega)) ?_
  refine AWP.cap X fun Z c u0 hc hnc=>?_
  (repeat refine WF ?_);refine AWP.region ?_;(repeat (first | (refine AOps.gN ?_;first | refine AOps.p (W.cap hc rfl (by exact At.f) (by exact At.f)) rfl ?_) | refine WO ?_ | refine All.i fun X=>?_ | refine AllY.i fun Y=>?_));refine AOps.nil ?_;(repeat refine WN ?_)
  refine AWP.cond rfl (fun hg=>?_) (fun hg=>?_)
  ·have hcn:c < n + 1:=by rw [decide_eq_true_eq] at hg;omega
   refine AWP.rs fun Y=>?_
   (repeat refine WF ?_);refine AWP.region ?_;(repeat (first | (refine AOps.gN ?_;first | refine AOps.p (W.hi (a:=i) rfl rfl (by exact At.f) rfl hi) rfl ?_ | refine AOps.p (W.subE ((n + 1 - i:Nat):Int) (by omega) (by omega) rfl rfl) rfl ?_ | refine AOps.s (W.appzG (n + 1 - i) hc rfl rfl (by exact At.f) (by exact At.f) (by exact At.f) rfl (by exact .inr rfl) (by rfl) (by kernel_rfl) (by omega) (by omega) (by decide) (by omega) (by omega) hfr) rfl ?_) | refine WO ?_ | refine All.i fun X=>?_ | refine AllY.i fun Y=>?_))
   have hsum:i + (n + 1 - i) = n + 1:=by omega
   obtain ⟨l1,hl1⟩:∃ l1,l.take i ++ List.replicate (n + 1 - i) (zAV [.pointer none] false) = l1:=⟨_,rfl⟩
   have hti:(l.take i).length = i:=by rw [List.length_take];omega
   have hl1n:l1.length = n + 1:=by rw [← hl1,List.length_append,hti,List.length_replicate,hsum]
   have hfr1:FreeL l1:=fun x hx=>by
    rw [← hl1] at hx
    rcases List.mem_append.1 hx with hx | hx
    ·exact hfr x (List.mem_of_mem_take hx)
    ·rw [List.eq_of_mem_replicate hx]
     exact FreeE.prim _
   have htk:l1.take i = l.take i:=by rw [← hl1,List.take_left' hti]
   rw [hl1,hsum]
   (repeat first | refine AOps.nil ?_ | refine WF ?_)
   (repeat refine WF ?_);refine AWP.region ?_;(repeat (first | (refine AOps.gN ?_;first | refine AOps.p (W.slice_lo rfl rfl (by exact At.f) rfl (by omega)) rfl ?_ | refine AOps.s (W.copyO 1 rfl rfl (by exact At.f) (by exact At.f) (by rfl) (by omega) (by omega) (by omega) (by omega) (by exact Nat.le_refl _) hfr1 hfV hwV) rfl ?_) | refine WO ?_ | refine All.i fun X=>?_ | refine AllY.i fun Y=>?_))
   obtain ⟨l2,hl2⟩:∃ l2,l1.take (0 + i) ++ ([e].drop 0).take 1 ++ l1.drop (0 + i + 1) = l2:=⟨_,rfl⟩
   rw [hl2]
   have hl2n:l2.length = n + 1:=by rw [← hl2];simp only [List.length_append,List.length_take,List.length_drop,List.length_singleton];omega
   have hfr2:FreeL l2:=fun x hx=>by
    rw [← hl2] at hx
    rcases List.mem_append.1 hx with hx | hx
    ·rcases List.mem_append.1 hx with hx | hx
     ·exact hfr1 x (List.mem_of_mem_take hx)
     ·exact hfV x (List.mem_of_mem_drop (List.mem_of_mem_take hx))
    ·exact hfr1 x (List.mem_of_mem_drop hx)
   have htk2:l2.take (0 + (i + 1)) = l.take i ++ [e]:=by
    rw [← hl2,Nat.zero_add,Nat.zero_add,htk]
    exact List.take_left' (by simp [hti])
   (repeat first | refine AOps.nil ?_ | refine WF ?_)
   (repeat refine WF ?_);refine AWP.region_run (by kernel_rfl) (by kernel_rfl) ?_;(repeat (first | (refine RGo.gN ?_;first | refine RGo.go (h:=W.addE ((i + 1:Nat):Int) (by omega) (by omega) rfl rfl) (k:=?_) | refine RGo.go (h:=W.slice_lo rfl rfl (by exact At.f) rfl (by omega)) (k:=?_) | refine RGo.goS (h:=W.copyO (n - i) rfl rfl (by exact At.f) (by exact At.f) (by rfl) (by omega) (by omega) (by omega) (by omega) (by omega) hfr2 hfr hw) (k:=?_)) | (refine RGo.gQ ?_;first | refine RGo.go (h:=W.addE ((i + 1:Nat):Int) (by omega) (by omega) rfl rfl) (k:=?_) | refine RGo.go (h:=W.slice_lo rfl rfl (by exact At.f) rfl (by omega)) (k:=?_) | refine RGo.goS (h:=W.copyO (n - i) rfl rfl (by exact At.f) (by exact At.f) (by rfl) (by omega) (by omega) (by omega) (by omega) (by omega) hfr2 hfr hw) (k:=?_)) | refine RK ?_ | refine RGo.nil (by kernel_rfl) ?_))
   obtain ⟨l3,hl3⟩:∃ l3,l2.take (0 + (i + 1)) ++ (l.drop (0 + i)).take (n - i) ++ l2.drop (0 + (i + 1) + (n - i)) = l3:=⟨_,rfl⟩
   rw [hl3]
   have hr:l3 = l.take i ++ e :: l.drop i:=by
    have e1:l2.drop (0 + (i + 1) + (n - i)) = []:=List.drop_of_length_le (by omega)
    have e2:(l.drop (0 + i)).take (n - i) = l.drop i:=by rw [Nat.zero_add];exact List.take_of_length_le (by rw [List.length_drop];omega)
    rw [← hl3,htk2,e1,e2,List.append_nil,List.append_assoc];rfl
   have hm:n + 1 = l3.length:=by
    rw [hr];simp only [List.length_append,List.length_cons,List.length_drop,hti];omega
   (repeat (first | refine WK ?_ | refine All.i fun X=>?_ | refine AllY.i fun Y=>?_))
   (refine AWP.ret ?_;(repeat (first | refine inB_r ?_ | refine andThen_r ?_));refine retQ_r ?_)
   rw [← hr]
   exact ⟨[.sl Y 0 (n + 1)],[.lst true 109 1 l3],_,[],.cons (.tmp rfl) rfl .nil,.cons (.cell (.sl (p:=0) .here hm)) .nil,by exact Sub.f,rfl,rfl⟩
  ·have hcn:n + 1 ≤ c:=by rw [decide_eq_false_iff_not] at hg;omega
   (repeat refine WF ?_);refine AWP.region ?_;(repeat (first | (refine AOps.gN ?_;first | refine AOps.p (W.sliceC (n + 1) hc rfl rfl (by exact At.f) (by exact At.f) (by omega) hcn) rfl ?_) | refine WO ?_ | refine All.i fun X=>?_ | refine AllY.i fun Y=>?_));refine AOps.nil ?_;(repeat refine WN ?_)
   (repeat refine WF ?_);refine AWP.region ?_;(repeat (first | (refine AOps.gN ?_;first | refine AOps.p (W.addE ((i + 1:Nat):Int) (by omega) (by omega) rfl rfl) rfl ?_ | refine AOps.p (W.slice_lo rfl rfl (by exact At.f) rfl (by omega)) rfl ?_) | refine WO ?_ | refine All.i fun X=>?_ | refine AllY.i fun Y=>?_))
   refine AOps.p (W.over (t:=105) (tR:=4) Tryz.func118 (by kernel_rfl) (by kernel_rfl) (by kernel_rfl) (by kernel_rfl) rfl rfl (by exact At.f) (by exact At.f) (by rfl) (by decide) (by omega) (by omega)) rfl ?_
   (repeat (first | refine WO ?_ | refine All.i fun X=>?_ | refine AllY.i fun Y=>?_))
   (repeat first | refine AOps.nil ?_ | refine WF ?_)
   refine AWP.cond_t rfl rfl ?_
   (repeat refine WF ?_);refine AWP.region_run (by kernel_rfl) (by kernel_rfl) ?_;(repeat (first | (refine RGo.gN ?_;first | refine RGo.go (h:=W.addE ((i + 1:Nat):Int) (by omega) (by omega) rfl rfl) (k:=?_) | refine RGo.go (h:=W.slice_lo rfl rfl (by exact At.f) rfl (by omega)) (k:=?_) | refine RGo.goS (h:=W.copyS (n - i) rfl rfl (by exact At.f) (by omega) (by omega) (by omega) (by omega) (by omega) hfr hw) (k:=?_)) | (refine RGo.gQ ?_;first | refine RGo.go (h:=W.addE ((i + 1:Nat):Int) (by omega) (by omega) rfl rfl) (k:=?_) | refine RGo.go (h:=W.slice_lo rfl rfl (by exact At.f) rfl (by omega)) (k:=?_) | refine RGo.goS (h:=W.copyS (n - i) rfl rfl (by exact At.f) (by omega) (by omega) (by omega) (by omega) (by omega) hfr hw) (k:=?_)) | refine RK ?_ | refine RGo.nil (by kernel_rfl) ?_))
   have hti:(l.take i).length = i:=by rw [List.length_take];omega
   obtain ⟨l1,hl1⟩:∃ l1,l.take (0 + (i + 1)) ++ (l.drop (0 + i)).take (n - i) ++ l.drop (0 + (i + 1) + (n - i)) = l1:=⟨_,rfl⟩
   rw [hl1]
   have hti1:(l.take (i + 1)).length = i + 1:=by rw [List.length_take];omega
   have hl1e:l1 = l.take (i + 1) ++ l.drop i:=by
    have e1:l.drop (0 + (i + 1) + (n - i)) = []:=List.drop_of_length_le (by omega)
    have e2:(l.drop (0 + i)).take (n - i) = l.drop i:=by rw [Nat.zero_add];exact List.take_of_length_le (by rw [List.length_drop];omega)
    rw [← hl1,e1,e2,List.append_nil,Nat.zero_add]
   have hfr1:FreeL l1:=fun x hx=>by
    rw [hl1e] at hx
    rcases List.mem_append.1 hx with hx | hx
    ·exact hfr x (List.mem_of_mem_take hx)
    ·exact hfr x (List.mem_of_mem_drop hx)
   have hl1n:l1.length = n + 1:=by rw [hl1e,List.length_append,hti1,List.length_drop];omega
   have htk:l1.take i = l.take i:=by rw [hl1e,List.take_append_of_le_length (by omega),List.take_take,Nat.min_eq_left (by omega)]
   have hdr:l1.drop (i + 1) = l.drop i:=by rw [hl1e,List.drop_left' hti1]
   (repeat refine WF ?_);refine AWP.region ?_;(repeat (first | (refine AOps.gN ?_;first | refine AOps.p (W.slice_lo rfl rfl (by exact At.f) rfl (by omega)) rfl ?_ | refine AOps.s (W.copyO 1 rfl rfl (by exact At.f) (by exact At.f) (by rfl) (by omega) (by omega) (by omega) (by omega) (by exact Nat.le_refl _) hfr1 hfV hwV) rfl ?_) | refine WO ?_ | refine All.i fun X=>?_ | refine AllY.i fun Y=>?_))
   obtain ⟨l2,hl2⟩:∃ l2,l1.take (0 + i) ++ ([e].drop 0).take 1 ++ l1.drop (0 + i + 1) = l2:=⟨_,rfl⟩
   rw [hl2]
   have hr:l2 = l.take i ++ e :: l.drop i:=by
    rw [← hl2,Nat.zero_add,htk,hdr,List.append_assoc];rfl
   have hm:n + 1 = l2.length:=by
    rw [hr];simp only [List.length_append,List.length_cons,List.length_drop,hti];omega
   (repeat first | refine AOps.nil ?_ | refine WF ?_)
   (repeat (first | refine WK ?_ | refine All.i fun X=>?_ | refine AllY.i fun Y=>?_))
   (refine AWP.ret ?_;(repeat (first | refine inB_r ?_ | refine andThen_r ?_));refine retQ_r ?_)
   rw [← hr]
   exact ⟨[.sl X 0 (n + 1)],[.lst true 109 1 l2],_,[],.cons (.tmp rfl) rfl .nil,.cons (.cell (.sl (p:=1) (.next .here) hm)) .nil,by exact Sub.f,rfl,rfl⟩
instance tPtrT:TPtr Tryz.prog 109:=⟨115,by kernel_rfl,by kernel_rfl⟩
instance mapIT:TMap Tryz.prog 104 3 109 (.pointer none):=⟨by kernel_rfl,by kernel_rfl,fun w=>by kernel_rfl,PlainV.nil (te:=115) (by kernel_rfl)⟩
theorem ptr_free (x:Nat):FreeE (.ptr x 0 0):=fun m c bs k=>by
 simp only [VC] at k
 exact k.1
theorem perm_ins (A B1 B2 C Z:List Slot):(A ++ (B1 ++ (B2 ++ (C ++ Z)))).Perm (B1 ++ (B2 ++ ((C ++ (A ++ [])) ++ Z))):=by
 rw [List.append_nil]
 have:=perm_mid A (B1 ++ (B2 ++ C)) Z
 simpa [List.append_assoc] using this
theorem Spec.tt {P:Program} {f:FuncId} {args:List AV} {S:List Slot} {β:Type} {r:β → AV} {So:β → List Slot} (h:Spec P f args S fun r' S'=>∃ q,r' = r q ∧ S' = So q):Spec P f args S fun r' S'=>∃ q,(fun _:β=>True) q ∧ r' = r q ∧ S' = So q:=h.mono fun r' S' ⟨q,h⟩=>⟨q,trivial,h⟩
theorem tabsS_mem {ts:List Tab} {t:Tab} (h:t ∈ ts):∃ R,(tabsS ts).Perm ([tabH t] ++ R):=by
 obtain ⟨l1,l2,rfl⟩:=List.append_of_mem h
 refine ⟨(stE t.ek t.es ++ colsS t.cs) ++ (tabsS l1 ++ tabsS l2),?_⟩
 have:=tabs_open (l1:=l1) (l2:=l2) (t:=t) []
 simp only [List.append_nil] at this
 exact this
theorem add1_all (ts:List Tab) (t:Tab) (ht:t ∈ ts) (ks:List Int) (hl:t.ks.length ≤ 1099511627776):Spec Tryz.prog 87 [.ptr t.X 0 0,intsA false ks] (tabsS ts) fun r S'=>r = iA (cmpL t.ks ks) ∧ S' = tabsS ts:=by
 obtain ⟨R,hp⟩:=tabsS_mem ht
 refine Spec.perm ((add1_sp t ks hl).beside R) hp fun r S' hq=>?_
 obtain ⟨S1,e1,e2,e3⟩:=hq
 refine ⟨tabsS ts,?_,e2,rfl⟩
 rw [e1,e3]
 exact hp.symm
set_option maxRecDepth 8000 in
set_option maxHeartbeats 4000000 in
theorem add_sp (a:Ar) (e:Ent) (l:List Comp) (ha:ArOK a) (hne:ArNE a.ts) (hn:0 ≤ e.n ∧ e.n < 256) (hf:e.n ∉ tKeys a.ts) (hl:l.length ≤ 16) :
  Spec Tryz.prog 52 [.ptr a.A 0 0,entA e,compsA false false l] (arS a) fun r S'=>∃ b:Ar,(ArOK b ∧ ArNE b.ts ∧ b.A = a.A ∧ b.kinds = a.kinds ∧ b.gens = a.gens ∧ (arItems b.ts).Perm (⟨e,l⟩ :: arItems a.ts)) ∧ r = .tup [] ∧ S' = arS b:=by
 obtain ⟨ks,hks⟩:∃ ks,l.map (·.kind) = ks:=⟨_,rfl⟩
 have hkl:ks.length = l.length:=by rw [← hks,List.length_map]
 have hkm:(ks.map iA).length = ks.length:=List.length_map _
 have hko:=kindsOf_ps l (by omega)
 rw [hks] at hko
 have htl:=ha.ts_le hne
 have hsr:=searchQ_sp a.Tb a.ts Tab.X (tabsS a.ts) ks 87 (fun t:Tab=>cmpL t.ks ks) (by omega) (fun t ht=>add1_all a.ts t ht ks (by have:=(ha.tab t ht).ks;omega))
 refine Spec.of (nt:=98) (res:=[]) Tryz.func52 rfl (by kernel_rfl) rfl rfl rfl fun Sf=>?_
 (repeat refine WF ?_);refine AWP.region ?_;(repeat (first | refine WO ?_ | refine All.i fun B=>?_ | refine AllY.i fun Y=>?_));refine AOps.nil ?_;(repeat refine WN ?_)
 (repeat first | refine AOps.nil ?_ | refine WF ?_)
 (repeat refine WF ?_);refine AWP.region ?_;(repeat (first | (refine AOps.gN ?_;first | (refine AOps.g_callf ?_;first | refine AOps.c1 (h:=(hko ..)) (k:=?_))) | refine WO ?_ | refine All.i fun X=>?_ | refine AllY.i fun Y=>?_));refine AOps.nil ?_;(repeat refine WN ?_)
 (repeat first | refine AOps.nil ?_ | refine WF ?_)
 (repeat refine WF ?_);refine AWP.region ?_;(repeat (first | (refine AOps.gN ?_;first | refine AOps.p3 [_,_,_,_,_] (h:=hsr) fun b hb=>?_) | refine WO ?_ | refine All.i fun X=>?_ | refine AllY.i fun Y=>?_))
 obtain ⟨i,fd⟩:=b
 dsimp only
 (repeat (first | refine WO ?_ | refine All.i fun X=>?_ | refine AllY.i fun Y=>?_))
 refine AOps.nil ?_
 (repeat first | refine AOps.nil ?_ | refine WF ?_)
 (repeat refine WF ?_);refine AWP.region ?_;(repeat (first | refine WO ?_ | refine All.i fun X=>?_ | refine AllY.i fun Y=>?_));refine AOps.nil ?_;(repeat refine WN ?_)
 (repeat first | refine AOps.nil ?_ | refine WF ?_)
 refine AWP.joinR (fun z:Ar × List Tab × Tab × List Tab=>ArOK z.1 ∧ z.1.ts = z.2.1 ++ z.2.2.1 :: z.2.2.2 ∧ z.2.2.1.ks = ks ∧ ArNE z.2.1 ∧ ArNE z.2.2.2 ∧ z.2.1.length = i ∧ z.1.A = a.A ∧ z.1.kinds = a.kinds ∧ z.1.gens = a.gens ∧ tKeys z.1.ts = tKeys a.ts ∧ arItems z.1.ts = arItems a.ts) (fun z=>⟨[(0,.ptr a.A 0 0),(2,compsA false false l),(4,.ptr B 0 0),(7,iA i)],(B,.row 32 2 [entA e]) :: (arS z.1 ++ Sf)⟩) ?_ ?_
 ·cases fd with
  | true =>
   refine AWP.cond_f rfl rfl ?_
   obtain ⟨t,ht,hz⟩:=hb.eq.1 rfl
   obtain ⟨hi,rfl⟩:=List.getElem?_eq_some_iff.1 ht
   obtain ⟨l1,l2,e1,e2⟩:=splitL_at hi
   have h1:ArNE l1:=fun u hu=>hne u (by rw [e1];simp [hu])
   have h2:ArNE l2:=fun u hu=>hne u (by rw [e1];simp [hu])
   (repeat (first | refine WK ?_ | refine All.i fun X=>?_ | refine AllY.i fun Y=>?_))
   refine jnR (a,l1,a.ts[i],l2) ⟨ha,e1,cmpL_zero.1 hz,h1,h2,e2,rfl,rfl,rfl,rfl,rfl⟩ ⟨by exact Lk.f,?_⟩
   simp only [arS,List.cons_append,List.nil_append]
   exact List.Sublist.refl _
  | false =>
   refine AWP.cond_t rfl rfl ?_
   (repeat first | refine AOps.nil ?_ | refine WF ?_)
   (repeat refine WF ?_);refine AWP.region ?_;(repeat (first | (refine AOps.gN ?_;first | refine AOps.p0 (C:=fun _=>True) [] (h:=newE_sp.mono fun r' S' ⟨k,e1,e2⟩=>⟨k,trivial,e1,e2⟩) fun ek _=>?_) | refine WO ?_ | refine All.i fun X=>?_ | refine AllY.i fun Y=>?_))
   refine AOps.nil ?_
   (repeat first | refine AOps.nil ?_ | refine WF ?_)
   refine AWP.adoptIn (Y:=X) 155 1 .here (fun C=>.cons (.agg (.cons .same (.cons .same (.cons (.base .nil) .nil)))) .nil) fun C=>?_
   (repeat refine WF ?_);refine AWP.region ?_;(repeat (first | refine WO ?_ | refine All.i fun X=>?_ | refine AllY.i fun Y=>?_));refine AOps.nil ?_;(repeat refine WN ?_)
   (repeat first | refine AOps.nil ?_ | refine WF ?_)
   refine AWP.front ek.M ?_;refine AWP.front ek.R ?_;refine AWP.front ek.V ?_;refine AWP.front ek.X ?_;refine AWP.front B ?_;refine AWP.front X ?_;refine AWP.front C ?_
   refine AWP.lp3 (fun (j C:Nat) (cs:List (StK × List (Int × List Int)))=>⟨[(0,.ptr a.A 0 0),(2,compsA false false l),(4,.ptr B 0 0),(6,intsA false ks),(7,iA i),(9,.ptr X 0 0),(31,iA (ks.map iA).length),(32,iA j)],(C,.row 155 1 (cs.map fun c=>.ptr c.1.X 0 0)) :: (X,.row 115 3 [.agg [intsA false ks,.ptr ek.X 0 0,.sl C 0 cs.length]]) :: (B,.row 32 2 [entA e]) :: (stE ek [] ++ (arH a ++ (colsS cs ++ (tabsS a.ts ++ Sf))))⟩) (fun j C cs=>j ≤ ks.length ∧ cs.length = j ∧ ∀ c ∈ cs,c.2 = []) (fun j _ _=>ks.length - j) 0 C [] ⟨by omega,rfl,by simp⟩ ?_
   rintro j C cs ⟨hj,hcl,hce⟩
   have hpl:(cs.map fun c=>AV.ptr c.1.X 0 0).length = cs.length:=List.length_map _
   (repeat refine WF ?_);refine AWP.region ?_;(repeat (first | refine WO ?_ | refine All.i fun X=>?_ | refine AllY.i fun Y=>?_));refine AOps.nil ?_;(repeat refine WN ?_)
   (repeat first | refine AOps.nil ?_ | refine WF ?_)
   refine AWP.cond rfl (fun h=>?_) (fun h=>?_)
   ·have h:j < ks.length:=by rw [decide_eq_true_eq,hkm] at h;omega
    (repeat first | refine AOps.nil ?_ | refine WF ?_)
    refine AWP.rs fun Y1=>AWP.rs fun Y2=>AWP.rs fun Y3=>AWP.rs fun Y4=>AWP.rs fun Y5=>?_
    (repeat refine WF ?_);refine AWP.region_runE (by kernel_rfl) (by kernel_rfl) ?_;(repeat refine RGoE.go ?_)
    refine RGoE.n0 Y1 Y2 Y3 Y4 ⟨0,0,0,0⟩ newS_sp fun k=>?_
    (repeat (first | (refine RGo.gN ?_;first | (refine RGo.g_lit ?_;refine RGo.goL (AV.ptr k.X 0 0) ?_)) | (refine RGo.gQ ?_;first | (refine RGo.g_lit ?_;refine RGo.goL (AV.ptr k.X 0 0) ?_)) | refine RK ?_ | refine RGo.nil (by kernel_rfl) ?_))
    have hma:(cs.map fun c=>AV.ptr c.1.X 0 0) ++ [AV.ptr k.X 0 0] = (cs ++ [(k,([]:List (Int × List Int)))]).map fun c=>AV.ptr c.1.X 0 0:=by rw [List.map_append];rfl
    have hml:cs.length + [AV.ptr k.X 0 0].length = (cs ++ [(k,([]:List (Int × List Int)))]).length:=by rw [List.length_append];rfl
    rw [hma,hml]
    (repeat first | refine AOps.nil ?_ | refine WF ?_)
    refine AWP.front k.M ?_;refine AWP.front k.R ?_;refine AWP.front k.V ?_;refine AWP.front k.X ?_;refine AWP.front B ?_;refine AWP.front C ?_;refine AWP.front X ?_;refine AWP.front Y5 ?_
    refine AWP.perm (S':=(Y5,.row 155 1 ((cs ++ [(k,([]:List (Int × List Int)))]).map fun c=>AV.ptr c.1.X 0 0)) :: (X,.row 115 3 [.agg [intsA false ks,.ptr ek.X 0 0,.sl Y5 0 (cs ++ [(k,([]:List (Int × List Int)))]).length]]) :: (C,.used) :: (B,.row 32 2 [entA e]) :: (stE ek [] ++ (arH a ++ (colsS (cs ++ [(k,([]:List (Int × List Int)))]) ++ (tabsS a.ts ++ Sf))))) ?_ ?_
    ·refine List.Perm.cons _ (List.Perm.cons _ (List.Perm.cons _ (List.Perm.cons _ ?_)))
     rw [colsS_app,colsS_cons]
     exact perm_ins (stS k []) (stE ek []) (arH a) (colsS cs) (tabsS a.ts ++ Sf)
    ·(repeat refine WF ?_);refine AWP.region ?_;(repeat (first | refine WO ?_ | refine All.i fun X=>?_ | refine AllY.i fun Y=>?_));refine AOps.nil ?_;(repeat refine WN ?_)
     exact lp_next3 (j + 1) Y5 (cs ++ [(k,[])]) ⟨by omega,by rw [List.length_append,hcl];rfl,fun c hc=>by
      rcases List.mem_append.1 hc with hc | hc
      ·exact hce c hc
      ·rw [List.mem_singleton] at hc;subst hc;rfl⟩ (by omega)
   ·have h:j = ks.length:=by rw [decide_eq_false_iff_not,hkm] at h;omega
    have hF:AV.frzs (((cs.map fun c=>AV.ptr c.1.X 0 0).drop 0).take cs.length) = cs.map fun c=>AV.ptr c.1.X 0 0:=by
     rw [List.drop_zero,List.take_of_length_le (by omega),frzs_map,List.map_map];rfl
    (repeat first | refine AOps.nil ?_ | refine WF ?_)
    refine AWP.iceIn (X:=C) (Y:=X) .here (.next .here) rfl (.cons (.agg (.cons .same (.cons .same (.cons (.base (.sl (by omega))) .nil)))) .nil) ?_
    rw [hF]
    have hi:=hb.le
    dsimp only at hi
    have hpt:(ptrs Tab.X a.ts).length = a.ts.length:=List.length_map _
    refine AWP.rs fun Y=>AWP.rs fun K2=>?_
    (repeat refine WF ?_);refine AWP.region ?_;(repeat (first | (refine AOps.gN ?_;first | refine AOps.s (W.lit1 (X:=K2) (l:=[.ptr X 0 0]) (by exact rfl) (by exact At.f) (by exact rfl) (by exact .inr rfl) (by decide) (by decide) (by exact rfl)) rfl ?_) | refine WO ?_ | refine All.i fun X=>?_ | refine AllY.i fun Y=>?_))
    have hfq:FreeL (ptrs Tab.X a.ts):=fun x hx=>by obtain ⟨y,_,rfl⟩:=List.mem_map.1 hx;exact ptr_free _
    have hwq:∀ x ∈ ptrs Tab.X a.ts,x.width = 1:=fun x hx=>by obtain ⟨y,_,rfl⟩:=List.mem_map.1 hx;rfl
    have hins:=(insertQ_sp a.Tb K2 a.ts.length i (ptrs Tab.X a.ts) (.ptr X 0 0) hpt.symm hi (by omega) hfq (ptr_free _) hwq rfl rfl).used2
    refine AOps.z3 (h:=hins) (hT:=.ls (Y:=Y)) (k:=?_)
    (repeat (first | refine WO ?_ | refine All.i fun X=>?_ | refine AllY.i fun Y=>?_))
    obtain ⟨t',ht'⟩:∃ t':Tab,t' = ⟨X,ks,ek,[],cs⟩:=⟨_,rfl⟩
    have hrow:(ptrs Tab.X a.ts).take i ++ .ptr X 0 0 :: (ptrs Tab.X a.ts).drop i = ptrs Tab.X (a.ts.take i ++ t' :: a.ts.drop i):=by
     rw [ptrs,ptrs,List.map_append,List.map_take,List.map_cons,List.map_drop,ht']
    have hrl:(ptrs Tab.X (a.ts.take i ++ t' :: a.ts.drop i)).length = (a.ts.take i ++ t' :: a.ts.drop i).length:=List.length_map _
    rw [hrow,hrl]
    dsimp only [setAll,List.set_cons_zero,List.set_cons_succ,List.cons_append,List.nil_append]
    refine AOps.front ek.M ?_;refine AOps.front ek.R ?_;refine AOps.front ek.V ?_;refine AOps.front ek.X ?_;refine AOps.front X ?_;refine AOps.front Y ?_;refine AOps.front a.Tv ?_;refine AOps.front a.O ?_;refine AOps.front a.G ?_;refine AOps.front a.A ?_;refine AOps.front B ?_;refine AOps.front a.Tb ?_;refine AOps.front C ?_;refine AOps.front K2 ?_
    obtain ⟨a',ha'⟩:∃ a':Ar,a' = { a with Tb:=Y,ts:=a.ts.take i ++ t' :: a.ts.drop i }:=⟨_,rfl⟩
    have htok:TabOK t':=by
     rw [ht']
     exact ⟨by dsimp only;omega,by dsimp only;omega,⟨List.nodup_nil,by simp⟩,fun c hc=>by rw [hce c hc];exact ⟨List.nodup_nil,by simp⟩,fun c hc n=>by rw [hce c hc];exact Iff.rfl⟩
    have hte:t'.es = []:=by rw [ht']
    have htk:t'.ks = ks:=by rw [ht']
    have hb':Found (fun u:Tab=>cmpL u.ks t'.ks) a.ts (i,false):=by rw [htk];exact hb
    have hok:ArOK a':=by rw [ha'];exact ha.newT htok hte hb'
    refine AOps.perm (S':=(K2,.used) :: (C,.used) :: (a.Tb,.used) :: (B,.row 32 2 [entA e]) :: (arS a' ++ Sf)) ?_ ?_
    ·refine List.Perm.cons _ (List.Perm.cons _ (List.Perm.cons _ (List.Perm.cons _ ?_)))
     subst ha'
     refine List.Perm.cons _ (List.Perm.cons _ (List.Perm.cons _ (List.Perm.cons _ (List.Perm.cons _ ?_))))
     have hz:=tabs_open (l1:=a.ts.take i) (l2:=a.ts.drop i) (t:=t') Sf
     have hz2:tabsS (a.ts.take i) ++ (tabsS (a.ts.drop i) ++ Sf) = tabsS a.ts ++ Sf:=by rw [← List.append_assoc,← tabsS_app,List.take_append_drop]
     rw [hz2] at hz
     subst ht'
     exact hz.symm
    ·refine AOps.nil ?_
     (repeat first | refine AOps.nil ?_ | refine WF ?_)
     subst ha'
     refine jnR ({ a with Tb:=Y,ts:=a.ts.take i ++ t' :: a.ts.drop i },a.ts.take i,t',a.ts.drop i) ⟨hok,rfl,htk,fun u hu=>hne u (List.mem_of_mem_take hu),fun u hu=>hne u (List.mem_of_mem_drop hu),by rw [List.length_take];omega,rfl,rfl,rfl,keys_newT hte,items_newT hte⟩ ⟨by exact Lk.f,?_⟩
     exact .cons _ (.cons _ (.cons _ (.refl _)))
 ·rintro ⟨a',l1,t,l2⟩ ⟨hok,hts,htk,hn1,hn2,hil,hA,hki,hge,hke,hit⟩
  dsimp only at hok hts htk hn1 hn2 hil hA hki hge hke hit ⊢
  rw [← hA]
  obtain ⟨Z,hZ⟩:∃ Z,tabsS l1 ++ (tabsS l2 ++ Sf) = Z:=⟨_,rfl⟩
  have hop:=tabs_open (l1:=l1) (l2:=l2) (t:=t) Sf
  rw [← hts,hZ] at hop
  refine AWP.perm (S':=(B,.row 32 2 [entA e]) :: (arH a' ++ (tabS t ++ Z))) ?_ ?_
  ·refine List.Perm.cons _ ?_
   rw [arS,List.append_assoc]
   exact hop.append_left _
  have htm:t ∈ a'.ts:=by rw [hts];simp
  have hto:=hok.tab t htm
  have hat:(ptrs Tab.X a'.ts)[i]? = some (.ptr t.X 0 0):=by
   rw [List.getElem?_map,hts,List.getElem?_append_right (by omega),hil,Nat.sub_self];rfl
  have hil2:i < a'.ts.length:=by rw [hts,List.length_append,List.length_cons];omega
  have hft:e.n ∉ keysC t.es:=fun hm=>hf (by rw [← hke];exact List.mem_flatMap.2 ⟨t,htm,hm⟩)
  have hpe:=(cputE_sp t.ek t.es hto.es e.n e hn).tt
  have hlm:(l.map (compA false)).length = l.length:=List.length_map _
  have hlc:t.cs.length = l.length:=by rw [← hto.len,htk,hkl]
  (repeat first | refine AOps.nil ?_ | refine WF ?_)
  (repeat refine WF ?_);refine AWP.region ?_;(repeat (first | (refine AOps.gN ?_;first | refine AOps.go (h:=W.idx rfl rfl (by exact At.f) rfl (by omega) (Nat.zero_add _)) (k:=?_)) | refine WO ?_ | refine All.i fun X=>?_ | refine AllY.i fun Y=>?_));refine AOps.nil ?_;(repeat refine WN ?_)
  (repeat first | refine AOps.nil ?_ | refine WF ?_)
  (repeat refine WF ?_);refine AWP.region_tail 7 (by kernel_rfl) (by kernel_rfl) (by kernel_rfl) ?_;dsimp only [List.take,List.drop];(repeat (first | refine RK ?_ | refine RGo.nil (by kernel_rfl) ?_))
  refine AOps.p3 [_,_,_,_,_,_,_] (h:=hpe) fun q _=>?_
  refine AOps.nil ?_
  obtain ⟨k',hk'⟩:∃ k':StK,k' = ⟨t.ek.X,q.1,q.2,t.ek.M⟩:=⟨_,rfl⟩
  rw [← hk']
  (repeat first | refine AOps.nil ?_ | refine WF ?_)
  (repeat refine WF ?_);refine AWP.region ?_;(repeat (first | refine WO ?_ | refine All.i fun X=>?_ | refine AllY.i fun Y=>?_));refine AOps.nil ?_;(repeat refine WN ?_)
  (repeat first | refine AOps.nil ?_ | refine WF ?_)
  refine AWP.lp2 (fun (j:Nat) (cs:List (StK × List (Int × List Int)))=>⟨[(0,.ptr a'.A 0 0),(4,.ptr B 0 0),(10,.ptr t.X 0 0),(71,compsA false false l),(72,iA (l.map (compA false)).length),(73,iA j)],(B,.row 32 2 [entA e]) :: (arH a' ++ (tabH t :: (stE k' (stPut t.es e.n e) ++ (colsS cs ++ Z))))⟩) (fun j cs=>j ≤ l.length ∧ CsUp e.n l j t.cs cs) (fun j _=>l.length - j) 0 t.cs ⟨by omega,.zero _ _ _⟩ ?_
  rintro j cs ⟨hj,hcs⟩
  have hcl:=hcs.len
  have hcp:=hcs.ptrs
  (repeat refine WF ?_);refine AWP.region ?_;(repeat (first | refine WO ?_ | refine All.i fun X=>?_ | refine AllY.i fun Y=>?_));refine AOps.nil ?_;(repeat refine WN ?_)
  (repeat first | refine AOps.nil ?_ | refine WF ?_)
  refine AWP.cond rfl (fun h=>?_) (fun h=>?_)
  ·have h:j < l.length:=by rw [decide_eq_true_eq,hlm] at h;omega
   have hjc:j < cs.length:=by omega
   have hjt:j < t.cs.length:=by omega
   have hlat:(l.map (compA false))[j]? = some (compA false l[j]):=map_at _ h
   have hlil:j < (l.map (compA false)).length:=by omega
   have hcat:(t.cs.map fun c=>AV.ptr c.1.X 0 0)[j]? = some (.ptr cs[j].1.X 0 0):=by rw [← hcp];exact map_at _ hjc
   have hcil:j < (t.cs.map fun c=>AV.ptr c.1.X 0 0).length:=by rw [List.length_map];omega
   have hcj:cs[j].2 = t.cs[j].2:=by rw [hcs.c j hjt hjc,if_neg (by omega)]
   have hcok:ColOK cs[j].2:=by rw [hcj];exact hto.cs _ (List.getElem_mem hjt)
   obtain ⟨m1,m2,hsp,hm1⟩:=splitL_at hjc
   have hlj:l[j]? = some l[j]:=List.getElem?_eq_getElem h
   obtain ⟨⟨ck,cv⟩,hce⟩:∃ c,l[j] = c:=⟨_,rfl⟩
   rw [hce] at hlat hlj
   obtain ⟨c,hcc⟩:∃ c,cs[j] = c:=⟨_,rfl⟩
   rw [hcc] at hcat hcok hsp
   have hpu:=(cputS_sp c.1 c.2 hcok e.n cv hn).tt
   (repeat first | refine AOps.nil ?_ | refine WF ?_)
   (repeat refine WF ?_);refine AWP.region ?_;(repeat (first | refine WO ?_ | refine All.i fun C=>?_ | refine AllY.i fun Y=>?_));refine AOps.nil ?_;(repeat refine WN ?_)
   (repeat first | refine AOps.nil ?_ | refine WF ?_)
   have heq:(C,AO.row 42 2 [compA false ⟨ck,cv⟩]) :: (B,AO.row 32 2 [entA e]) :: (arH a' ++ (tabH t :: (stE k' (stPut t.es e.n e) ++ (colsS cs ++ Z)))) = ((C,AO.row 42 2 [compA false ⟨ck,cv⟩]) :: (B,AO.row 32 2 [entA e]) :: (arH a' ++ (tabH t :: (stE k' (stPut t.es e.n e) ++ colsS m1)))) ++ (stS c.1 c.2 ++ (colsS m2 ++ Z)):=by
    rw [hsp,colsS_app,colsS_cons]
    simp only [List.cons_append,List.append_assoc,List.nil_append]
   (repeat refine WF ?_);refine AWP.region_tail 11 (by kernel_rfl) (by kernel_rfl) (by kernel_rfl) ?_;dsimp only [List.take,List.drop];(repeat (first | refine RK ?_ | refine RGo.nil (by kernel_rfl) ?_))
   refine AOps.p3 _ (h:=hpu) (k:=fun q2 _=>?_) (hp:=heq)
   have heq2:((C,AO.row 42 2 [compA false ⟨ck,cv⟩]) :: (B,AO.row 32 2 [entA e]) :: (arH a' ++ (tabH t :: (stE k' (stPut t.es e.n e) ++ colsS m1)))) ++ (stS ⟨c.1.X,q2.1,q2.2,c.1.M⟩ (stPut c.2 e.n cv) ++ (colsS m2 ++ Z)) = (C,AO.row 42 2 [compA false ⟨ck,cv⟩]) :: (B,AO.row 32 2 [entA e]) :: (arH a' ++ (tabH t :: (stE k' (stPut t.es e.n e) ++ (colsS (m1 ++ ((⟨c.1.X,q2.1,q2.2,c.1.M⟩:StK),stPut c.2 e.n cv) :: m2) ++ Z)))):=by
    rw [colsS_app,colsS_cons]
    simp only [List.cons_append,List.append_assoc,List.nil_append]
   refine AOps.perm (List.Perm.of_eq heq2) ?_
   refine AOps.nil ?_
   (repeat first | refine AOps.nil ?_ | refine WF ?_)
   (repeat refine WF ?_);refine AWP.region ?_;(repeat (first | refine WO ?_ | refine All.i fun X=>?_ | refine AllY.i fun Y=>?_));refine AOps.nil ?_;(repeat refine WN ?_)
   exact lp_next2 (j + 1) (m1 ++ ((⟨c.1.X,q2.1,q2.2,c.1.M⟩:StK),stPut c.2 e.n cv) :: m2) ⟨by omega,hcs.next hsp hm1 (by rw [hlj];rfl) _ rfl⟩ (by omega)
  ·have h:j = l.length:=by rw [decide_eq_false_iff_not,hlm] at h;omega
   subst h
   rw [← hlc] at hcs
   have hfa:e.n ∉ tKeys a'.ts:=by rw [hke];exact hf
   have hgn:a'.g e.n = none:=by
    cases hg:a'.g e.n with
    | none=>rfl
    | some u =>
     obtain ⟨w,hw,h2,_⟩:=hok.g _ _ hg
     exact absurd (List.mem_flatMap.2 ⟨w,hw,h2⟩) hfa
   have hsz:(if (a'.g e.n).isSome then a'.c else a'.c + 1) = a'.c + 1:=by rw [hgn];rfl
   have hmx:a'.c < maxLen:=by have:=hok.c_le;unfold maxLen;omega
   (repeat first | refine AOps.nil ?_ | refine WF ?_)
   refine AWP.namePtr (X:=t.X) 10 (fun b=>?_)
   obtain ⟨K',hK'⟩:∃ K':AV → Value → Prop,K' = fun v u=>a'.K v u ∨ (v = .ptr t.X 0 0 ∧ u = .pointer (some ⟨b,0,none⟩)):=⟨_,rfl⟩
   rw [← hK']
   refine AWP.perm (S':=(B,.row 32 2 [entA e]) :: (arH { a' with ts:=l1 ++ upT t k' e cs :: l2,K:=K' } ++ (tabsS (l1 ++ upT t k' e cs :: l2) ++ Sf))) ?_ ?_
   ·refine List.Perm.cons _ ?_
    have hln:(l1 ++ upT t k' e cs :: l2).length = a'.ts.length:=by rw [hts];simp
    have hpr:ptrs Tab.X (l1 ++ upT t k' e cs :: l2) = ptrs Tab.X a'.ts:=by rw [hts,ptrs,ptrs,List.map_append,List.map_append,List.map_cons,List.map_cons]
    show List.Perm ([(a'.A,.row 107 4 [.agg [kindsA false false a'.kinds,.sl a'.G 0 a'.gens.length,.sl a'.Tb 0 a'.ts.length,.mp a'.O]]),(a'.G,.row 3 1 (a'.gens.map iA)),(a'.O,.ob (MapF Tryz.prog 3 109 a'.g a'.c)),(a'.Tv,.tv K'),(a'.Tb,.row 109 1 (ptrs Tab.X a'.ts))] ++ (tabH t :: (stE k' (stPut t.es e.n e) ++ (colsS cs ++ Z)))) ([(a'.A,.row 107 4 [.agg [kindsA false false a'.kinds,.sl a'.G 0 a'.gens.length,.sl a'.Tb 0 (l1 ++ upT t k' e cs :: l2).length,.mp a'.O]]),(a'.G,.row 3 1 (a'.gens.map iA)),(a'.O,.ob (MapF Tryz.prog 3 109 a'.g a'.c)),(a'.Tv,.tv K'),(a'.Tb,.row 109 1 (ptrs Tab.X (l1 ++ upT t k' e cs :: l2)))] ++ (tabsS (l1 ++ upT t k' e cs :: l2) ++ Sf))
    rw [hln,hpr]
    refine List.Perm.append_left _ ?_
    refine List.Perm.trans ?_ (tabs_open (l1:=l1) (l2:=l2) (t:=upT t k' e cs) Sf).symm
    rw [hZ]
    refine List.Perm.of_eq ?_
    have hkx:k'.X = t.ek.X:=by rw [hk']
    show _ = ((t.X,AO.row 115 3 [.agg [intsA false t.ks,.ptr k'.X 0 0,colP cs]]) :: (stE k' (stPut t.es e.n e) ++ colsS cs)) ++ Z
    rw [hkx,colP,hcp]
    rfl
   ·(repeat refine WF ?_);refine AWP.region_run (by kernel_rfl) (by kernel_rfl) ?_;(repeat (first | (refine RGo.gN ?_;first | refine RGo.goS (h:=W.mapUpd (PlainV.ptr (te:=115) (by kernel_rfl) b) (by omega) hmx rfl rfl rfl (by exact At.f)) (k:=?_)) | (refine RGo.gQ ?_;first | refine RGo.goS (h:=W.mapUpd (PlainV.ptr (te:=115) (by kernel_rfl) b) (by omega) hmx rfl rfl rfl (by exact At.f)) (k:=?_)) | refine RK ?_ | refine RGo.nil (by kernel_rfl) ?_))
    rw [hsz]
    have hup:ArOK { a' with ts:=l1 ++ upT t k' e cs :: l2,K:=K',g:=updG a'.g e.n (.pointer (some ⟨b,0,none⟩)),c:=a'.c + 1 }:=hok.up hts hn hfa hcs (fun v u h=>by rw [hK'];exact .inl h) (by rw [hK'];exact .inr ⟨rfl,rfl⟩)
    have hitm:=items_up (l1:=l1) (l2:=l2) (k:=k') hto hn hft (htk.trans hks.symm) hcs
    rw [← hts,hit] at hitm
    refine retQ_n ?_
    exact Ends.sp [] (arS { a' with ts:=l1 ++ upT t k' e cs :: l2,K:=K',g:=updG a'.g e.n (.pointer (some ⟨b,0,none⟩)),c:=a'.c + 1 }) ⟨_,⟨hup,ne_up hn1 hn2 hft,rfl,hki,hge,hitm⟩,rfl,rfl⟩
def lessA (a:Ar) (l1 l2:List Tab) (t:Tab) (n:Int) (Y:Nat):Ar:=if (stDrop t.es n).length = 0 then { a with Tb:=Y,ts:=l1 ++ l2,g:=delG a.g n,c:=a.c - 1 } else { a with ts:=l1 ++ downT t n :: l2,g:=delG a.g n,c:=a.c - 1 }
theorem lessA_ok {a:Ar} (h:ArOK a) (hne:ArNE a.ts) {l1 l2:List Tab} {t:Tab} (hts:a.ts = l1 ++ t :: l2) {n:Int} {e:Ent} (hm:(n,e) ∈ t.es) (Y:Nat):ArOK (lessA a l1 l2 t n Y) ∧ ArNE (lessA a l1 l2 t n Y).ts ∧ (lessA a l1 l2 t n Y).A = a.A ∧ (lessA a l1 l2 t n Y).kinds = a.kinds ∧ (lessA a l1 l2 t n Y).gens = a.gens ∧ (arItems a.ts).Perm (⟨e,tComps t n⟩ :: arItems (lessA a l1 l2 t n Y).ts):=by
 have h1:=h.down hts hm
 have h2:=items_down h hts hm
 unfold lessA
 split
 ·rename_i h0
  have h0:(downT t n).es = []:=List.eq_nil_of_length_eq_zero h0
  refine ⟨h1.less (Y:=Y) rfl h0,fun u hu=>hne u ?_,rfl,rfl,rfl,by rw [items_less h0] at h2;exact h2⟩
  rw [hts]
  rcases List.mem_append.1 hu with hu | hu <;> simp [hu]
 ·rename_i h0
  refine ⟨h1,fun u hu=>?_,rfl,rfl,rfl,h2⟩
  rcases List.mem_append.1 hu with hu | hu
  ·exact hne u (by rw [hts];simp [hu])
  ·rcases List.mem_cons.1 hu with rfl | hu
   ·exact fun e2=>h0 (by rw [show stDrop t.es n = [] from e2];rfl)
   ·exact hne u (by rw [hts];simp [hu])
theorem take1_yes (P X:Nat) (l:List AV) (h0:0 < l.length) (R:List Slot):Spec Tryz.prog 170 [.ptr X 0 0,.ptr P 0 0] ((P,.row 109 1 [.ptr X 0 0]) :: (X,.row 115 3 l) :: R) fun r S'=>r = bA true ∧ S' = (P,.row 109 1 [.ptr X 0 0]) :: (X,.row 115 3 l) :: R:=by
 refine Spec.of (nt:=7) (res:=[.tmp 3]) Tryz.func170 rfl (by kernel_rfl) rfl rfl rfl fun Sf=>?_
 (repeat refine WF ?_);refine AWP.region ?_;(repeat (first | refine WO ?_ | refine All.i fun X=>?_ | refine AllY.i fun Y=>?_));refine AOps.nil ?_;(repeat refine WN ?_)
 (repeat first | refine AOps.nil ?_ | refine WF ?_)
 (repeat refine WF ?_);refine AWP.region ?_;(repeat (first | (refine AOps.gN ?_;first | refine AOps.go (h:=W.eqPtrS h0 rfl rfl (by exact At.f)) (k:=?_)) | refine WO ?_ | refine All.i fun X=>?_ | refine AllY.i fun Y=>?_));refine AOps.nil ?_;(repeat refine WN ?_)
 (refine AWP.ret ?_;(repeat (first | refine inB_r ?_ | refine andThen_r ?_));refine retQ_r ?_)
 exact Ends.sp [bA true] ((P,.row 109 1 [.ptr X 0 0]) :: (X,.row 115 3 l) :: R) ⟨rfl,rfl⟩
theorem take1_no (P X Y:Nat) (l l2:List AV) (h0:0 < l.length) (h1:0 < l2.length) (R:List Slot):Spec Tryz.prog 170 [.ptr Y 0 0,.ptr P 0 0] ((P,.row 109 1 [.ptr X 0 0]) :: (X,.row 115 3 l) :: (Y,.row 115 3 l2) :: R) fun r S'=>r = bA false ∧ S' = (P,.row 109 1 [.ptr X 0 0]) :: (X,.row 115 3 l) :: (Y,.row 115 3 l2) :: R:=by
 refine Spec.of (nt:=7) (res:=[.tmp 3]) Tryz.func170 rfl (by kernel_rfl) rfl rfl rfl fun Sf=>?_
 (repeat refine WF ?_);refine AWP.region ?_;(repeat (first | refine WO ?_ | refine All.i fun X=>?_ | refine AllY.i fun Y=>?_));refine AOps.nil ?_;(repeat refine WN ?_)
 (repeat first | refine AOps.nil ?_ | refine WF ?_)
 (repeat refine WF ?_);refine AWP.region ?_;(repeat (first | (refine AOps.gN ?_;first | refine AOps.go (h:=W.eqPtrD (p:=2) (q:=1) h1 h0 rfl rfl (.next (.next .here)) (.next .here) (by decide)) (k:=?_)) | refine WO ?_ | refine All.i fun X=>?_ | refine AllY.i fun Y=>?_));refine AOps.nil ?_;(repeat refine WN ?_)
 (refine AWP.ret ?_;(repeat (first | refine inB_r ?_ | refine andThen_r ?_));refine retQ_r ?_)
 exact Ends.sp [bA false] ((P,.row 109 1 [.ptr X 0 0]) :: (X,.row 115 3 l) :: (Y,.row 115 3 l2) :: R) ⟨rfl,rfl⟩
theorem tab_front {us:List Tab} {x:Tab} (h:x ∈ us):∃ Z,(tabsS us).Perm (tabH x :: Z):=by
 obtain ⟨m1,m2,rfl⟩:=List.append_of_mem h
 have:=tabs_open (l1:=m1) (l2:=m2) (t:=x) []
 rw [List.append_nil] at this
 exact ⟨_,this⟩
theorem take1_all (P:Nat) (l1 l2:List Tab) (t:Tab) (ho:(l1 ++ t :: l2).Pairwise fun x y:Tab=>cmpL x.ks y.ks < 0):∀ x ∈ l1 ++ t :: l2,Spec Tryz.prog 170 (.ptr x.X 0 0 :: [.ptr P 0 0]) ((P,.row 109 1 [.ptr t.X 0 0]) :: (tabS t ++ (tabsS l1 ++ tabsS l2))) fun r S'=>r = bA (decide (x.ks = t.ks)) ∧ S' = (P,.row 109 1 [.ptr t.X 0 0]) :: (tabS t ++ (tabsS l1 ++ tabsS l2)):=by
 intro x hx
 have hd:x ∈ l1 ++ l2 → x.ks ≠ t.ks:=fun h e=>by
  have h1:cmpL x.ks t.ks = 0:=cmpL_zero.2 e
  have h2:cmpL t.ks x.ks = 0:=cmpL_zero.2 e.symm
  rw [List.pairwise_append] at ho
  rcases List.mem_append.1 h with h | h
  ·have:=ho.2.2 x h t (by simp);omega
  ·have:=(List.pairwise_cons.1 ho.2.1).1 x h;omega
 have hc:x = t ∨ x ∈ l1 ++ l2:=by
  rcases List.mem_append.1 hx with h | h
  ·exact .inr (by simp [h])
  ·rcases List.mem_cons.1 h with h | h
   ·exact .inl h
   ·exact .inr (by simp [h])
 rcases hc with rfl | hc
 ·rw [decide_eq_true rfl]
  exact take1_yes P x.X _ (by exact Nat.zero_lt_succ _) _
 ·rw [decide_eq_false (hd hc)]
  obtain ⟨Z,hZ⟩:=tab_front hc
  rw [tabsS_app] at hZ
  have hp:((P,AO.row 109 1 [.ptr t.X 0 0]) :: (tabS t ++ (tabsS l1 ++ tabsS l2))).Perm ((P,.row 109 1 [.ptr t.X 0 0]) :: tabH t :: tabH x :: ((stE t.ek t.es ++ colsS t.cs) ++ Z)):=by
   refine List.Perm.cons _ (List.Perm.cons _ ?_)
   refine (hZ.append_left (stE t.ek t.es ++ colsS t.cs)).trans ?_
   exact perm_mid (stE t.ek t.es ++ colsS t.cs) [tabH x] Z
  exact (take1_no P t.X x.X _ _ (by exact Nat.zero_lt_succ _) (by exact Nat.zero_lt_succ _) _).perm hp fun r S' ⟨h1,h2⟩=>⟨_,by rw [h2];exact hp.symm,h1,rfl⟩
set_option maxRecDepth 8000 in
set_option maxHeartbeats 4000000 in
theorem take_sp (a:Ar) (ha:ArOK a) (hne:ArNE a.ts) {l1 l2:List Tab} {t:Tab} (hts:a.ts = l1 ++ t :: l2) {n:Int} (hnk:n ∈ keysC t.es):Spec Tryz.prog 156 [.ptr a.A 0 0,iA n] (arS a) fun r S'=>∃ Y:Nat,True ∧ r = .lst true 42 2 ((tComps t n).map (compA false)) ∧ S' = arS (lessA a l1 l2 t n Y):=by
 have htm:t ∈ a.ts:=by rw [hts];simp
 have hto:=ha.tab t htm
 have hnl:=hto.es.lt n hnk
 have hn:I64 n:=by constructor <;> omega
 have hsm:=ha.gn n (List.mem_flatMap.2 ⟨t,htm,hnk⟩)
 obtain ⟨u,hu⟩:∃ u,a.g n = some u:=Option.isSome_iff_exists.1 hsm
 obtain ⟨w,hw,hwn,hK,b,hb⟩:=ha.g n u hu
 have hwt:=ha.uniq hw htm hwn hnk
 subst hwt
 have hgd:(a.g n).getD (.pointer none) = u:=by rw [hu];rfl
 have hone:u.oneCell' = true:=by rw [hb];rfl
 have hcs:=comps_sp w n hto hn hnk
 have hdE:=dropE_sp w.ek w.es hto.es n hn
 have hlE:=clenE_sp w.ek (stDrop w.es n)
 have hc16:w.cs.length ≤ 16:=by have:=hto.ks;have:=hto.len;omega
 have hcpl:(w.cs.map fun c=>AV.ptr c.1.X 0 0).length = w.cs.length:=List.length_map _
 have hsz:(if (a.g n).isSome then a.c - 1 else a.c) = a.c - 1:=by rw [hsm];rfl
 obtain ⟨⟨m,e⟩,hm,he⟩:=List.mem_map.1 hnk
 have he:m = n:=he
 rw [he] at hm
 have hdn:=ha.down hts hm
 obtain ⟨w',hw'⟩:∃ w',w' = downT w n:=⟨_,rfl⟩
 have htl:=ha.ts_le hne
 have hhd:tabH w = tabH w':=by rw [hw'];show (w.X,AO.row 115 3 [.agg [intsA false w.ks,.ptr w.ek.X 0 0,colP w.cs]]) = (w.X,AO.row 115 3 [.agg [intsA false w.ks,.ptr w.ek.X 0 0,colP (w.cs.map (downC n))]]);rw [colP,colP,List.map_map];rfl
 have hln:a.ts.length = (l1 ++ w' :: l2).length:=by rw [hts];simp
 have hpr:ptrs Tab.X a.ts = ptrs Tab.X (l1 ++ w' :: l2):=by rw [hts,hw',ptrs,ptrs,List.map_append,List.map_append,List.map_cons,List.map_cons]
 have hflt:(l1 ++ w' :: l2).filter (fun x=>!decide (x.ks = w'.ks)) = l1 ++ l2:=by
  have ho:(l1 ++ w' :: l2).Pairwise fun x y:Tab=>cmpL x.ks y.ks < 0:=by rw [hw'];exact hdn.ord
  have hd:∀ x ∈ l1 ++ l2,x.ks ≠ w'.ks:=fun x h e=>by
   have h1:cmpL x.ks w'.ks = 0:=cmpL_zero.2 e
   have h2:cmpL w'.ks x.ks = 0:=cmpL_zero.2 e.symm
   rw [List.pairwise_append] at ho
   rcases List.mem_append.1 h with h | h
   ·have:=ho.2.2 x h w' (by simp);omega
   ·have:=(List.pairwise_cons.1 ho.2.1).1 x h;omega
  rw [List.filter_append,List.filter_cons_of_neg (by simp),← List.filter_append,List.filter_eq_self]
  intro x hx
  simp [hd x hx]
 refine Spec.of (nt:=58) (res:=[.tmp 4]) Tryz.func156 rfl (by kernel_rfl) rfl rfl rfl fun Sf=>?_
 obtain ⟨Z,hZ⟩:∃ Z,tabsS l1 ++ (tabsS l2 ++ Sf) = Z:=⟨_,rfl⟩
 have hop:=tabs_open (l1:=l1) (l2:=l2) (t:=w) Sf
 rw [← hts,hZ] at hop
 (repeat refine WF ?_);refine AWP.region ?_;(repeat (first | refine WO ?_ | refine All.i fun X=>?_ | refine AllY.i fun Y=>?_));refine AOps.nil ?_;(repeat refine WN ?_)
 refine AWP.perm (S':=arH a ++ (tabS w ++ Z)) ?_ ?_
 ·rw [arS,List.append_assoc]
  exact hop.append_left _
 (repeat first | refine AOps.nil ?_ | refine WF ?_)
 (repeat refine WF ?_);refine AWP.region ?_;(repeat (first | (refine AOps.gN ?_;first | refine AOps.asPtr 14 (.ptr w.X 0 0) hK ?_ | refine AOps.go (h:=W.look1 _ hgd hn rfl rfl (by exact At.f) hone) (k:=?_)) | refine WO ?_ | refine All.i fun P5=>?_ | refine AllY.i fun Y=>?_));refine AOps.nil ?_;(repeat refine WN ?_)
 (repeat first | refine AOps.nil ?_ | refine WF ?_)
 (repeat refine WF ?_);refine AWP.region ?_;(repeat (first | (refine AOps.gN ?_;first | refine AOps.ut2 [_,_,_,_,_,_] (h:=hcs) (k:=fun K=>?_)) | refine WO ?_ | refine All.i fun X=>?_ | refine AllY.i fun Y=>?_));refine AOps.nil ?_;(repeat refine WN ?_)
 refine AWP.perm (S':=(K,.row 42 2 ((tComps w n).map (compA false))) :: (P5,.row 109 1 [.ptr w.X 0 0]) :: (arH a ++ (tabH w :: (stE w.ek w.es ++ (colsS w.cs ++ Z))))) (List.Perm.of_eq (by first | rfl | (simp only [List.cons_append,List.append_assoc,List.nil_append];done) | (simp only [List.cons_append,List.append_assoc,List.nil_append];rfl))) ?_
 rw [List.length_map]
 (repeat first | refine AOps.nil ?_ | refine WF ?_)
 (repeat refine WF ?_);refine AWP.region ?_;(repeat (first | (refine AOps.gN ?_;first | refine AOps.u2 [_,_,_,_,_,_,_,_] (h:=hdE) (k:=?_)) | refine WO ?_ | refine All.i fun X=>?_ | refine AllY.i fun Y=>?_));refine AOps.nil ?_;(repeat refine WN ?_)
 (repeat first | refine AOps.nil ?_ | refine WF ?_)
 (repeat refine WF ?_);refine AWP.region ?_;(repeat (first | refine WO ?_ | refine All.i fun X=>?_ | refine AllY.i fun Y=>?_));refine AOps.nil ?_;(repeat refine WN ?_)
 (repeat first | refine AOps.nil ?_ | refine WF ?_)
 refine AWP.lp (fun (j:Nat)=>⟨[(0,.ptr a.A 0 0),(1,iA n),(5,.ptr P5 0 0),(6,.sl K 0 (tComps w n).length),(27,colP w.cs),(28,iA (w.cs.map fun c=>AV.ptr c.1.X 0 0).length),(29,iA j)],(K,.row 42 2 ((tComps w n).map (compA false))) :: (P5,.row 109 1 [.ptr w.X 0 0]) :: (arH a ++ (tabH w :: (stE w.ek (stDrop w.es n) ++ (colsS ((w.cs.take j).map (downC n) ++ w.cs.drop j) ++ Z))))⟩) (fun j=>j ≤ w.cs.length) (fun j=>w.cs.length - j) 0 (by omega) ?_
 rintro j hj
 (repeat refine WF ?_);refine AWP.region ?_;(repeat (first | refine WO ?_ | refine All.i fun X=>?_ | refine AllY.i fun Y=>?_));refine AOps.nil ?_;(repeat refine WN ?_)
 (repeat first | refine AOps.nil ?_ | refine WF ?_)
 refine AWP.cond rfl (fun h=>?_) (fun h=>?_)
 ·have h:j < w.cs.length:=by rw [decide_eq_true_eq,hcpl] at h;omega
  have hcat:(w.cs.map fun c=>AV.ptr c.1.X 0 0)[j]? = some (.ptr w.cs[j].1.X 0 0):=map_at _ h
  have hcil:j < (w.cs.map fun c=>AV.ptr c.1.X 0 0).length:=by omega
  have hcok:=hto.cs _ (List.getElem_mem h)
  have hdj:w.cs.drop j = w.cs[j] :: w.cs.drop (j + 1):=(List.getElem_cons_drop h).symm
  have htj:(w.cs.take (j + 1)).map (downC n) = (w.cs.take j).map (downC n) ++ [downC n w.cs[j]]:=by rw [List.take_succ_eq_append_getElem h,List.map_append];rfl
  obtain ⟨c,hcc⟩:∃ c,w.cs[j] = c:=⟨_,rfl⟩
  rw [hcc] at hcat hcok hdj htj
  have hdS:=dropS_sp c.1 c.2 hcok n hn
  have heq:(K,AO.row 42 2 ((tComps w n).map (compA false))) :: (P5,AO.row 109 1 [.ptr w.X 0 0]) :: (arH a ++ (tabH w :: (stE w.ek (stDrop w.es n) ++ (colsS ((w.cs.take j).map (downC n) ++ w.cs.drop j) ++ Z)))) = ((K,AO.row 42 2 ((tComps w n).map (compA false))) :: (P5,AO.row 109 1 [.ptr w.X 0 0]) :: (arH a ++ (tabH w :: (stE w.ek (stDrop w.es n) ++ colsS ((w.cs.take j).map (downC n)))))) ++ (stS c.1 c.2 ++ (colsS (w.cs.drop (j + 1)) ++ Z)):=by
   rw [hdj,colsS_app,colsS_cons]
   simp only [List.cons_append,List.append_assoc,List.nil_append]
  have heq2:((K,AO.row 42 2 ((tComps w n).map (compA false))) :: (P5,AO.row 109 1 [.ptr w.X 0 0]) :: (arH a ++ (tabH w :: (stE w.ek (stDrop w.es n) ++ colsS ((w.cs.take j).map (downC n)))))) ++ (stS c.1 (stDrop c.2 n) ++ (colsS (w.cs.drop (j + 1)) ++ Z)) = (K,AO.row 42 2 ((tComps w n).map (compA false))) :: (P5,AO.row 109 1 [.ptr w.X 0 0]) :: (arH a ++ (tabH w :: (stE w.ek (stDrop w.es n) ++ (colsS ((w.cs.take (j + 1)).map (downC n) ++ w.cs.drop (j + 1)) ++ Z)))):=by
   rw [htj,colsS_app,colsS_app,colsS_cons]
   simp only [List.cons_append,List.append_assoc,List.nil_append,colsS,List.flatMap_nil]
  (repeat first | refine AOps.nil ?_ | refine WF ?_)
  (repeat refine WF ?_);refine AWP.region ?_;(repeat (first | (refine AOps.gN ?_;first | refine AOps.go (h:=W.idx rfl rfl (by exact At.f) rfl (by omega) (Nat.zero_add _)) (k:=?_)) | refine WO ?_ | refine All.i fun X=>?_ | refine AllY.i fun Y=>?_));refine AOps.nil ?_;(repeat refine WN ?_)
  (repeat first | refine AOps.nil ?_ | refine WF ?_)
  (repeat refine WF ?_);refine AWP.region ?_;(repeat (first | (refine AOps.gN ?_;first | refine AOps.u2 _ (h:=hdS) (k:=?_) (hp:=heq)) | refine WO ?_ | refine All.i fun X=>?_ | refine AllY.i fun Y=>?_));refine AOps.nil ?_;(repeat refine WN ?_)
  refine AWP.perm (List.Perm.of_eq heq2) ?_
  (repeat refine WF ?_);refine AWP.region ?_;(repeat (first | refine WO ?_ | refine All.i fun X=>?_ | refine AllY.i fun Y=>?_));refine AOps.nil ?_;(repeat refine WN ?_)
  exact lp_next (j + 1) (by omega)
 ·have h:j = w.cs.length:=by rw [decide_eq_false_iff_not,hcpl] at h;omega
  subst h
  rw [List.take_length,List.drop_length,List.append_nil]
  (repeat first | refine AOps.nil ?_ | refine WF ?_)
  (repeat refine WF ?_);refine AWP.region ?_;(repeat (first | (refine AOps.gN ?_;first | refine AOps.goS (h:=W.mapDel hn rfl rfl (by exact At.f)) (k:=?_)) | refine WO ?_ | refine All.i fun X=>?_ | refine AllY.i fun Y=>?_));refine AOps.nil ?_;(repeat refine WN ?_)
  rw [hsz]
  (repeat first | refine AOps.nil ?_ | refine WF ?_)
  (repeat refine WF ?_);refine AWP.region ?_;(repeat (first | (refine AOps.gN ?_;first | refine AOps.u1 [_,_,_,_,_,_,_,_] (h:=hlE) (k:=?_)) | refine WO ?_ | refine All.i fun X=>?_ | refine AllY.i fun Y=>?_));refine AOps.nil ?_;(repeat refine WN ?_)
  have hst:stE w.ek (stDrop w.es n) ++ (colsS (w.cs.map (downC n)) ++ Z) = (stE w'.ek w'.es ++ colsS w'.cs) ++ Z:=by rw [hw',List.append_assoc]
  have hXX:w.X = w'.X:=by rw [hw']
  have hlw:(stDrop w.es n).length = w'.es.length:=by rw [hw']
  rw [hst,hhd,hln,hpr,hXX]
  refine AWP.cond rfl (fun h0=>?_) (fun h0=>?_)
  ·have h0:(stDrop w.es n).length = 0:=by rw [decide_eq_true_eq] at h0;omega
   have hdel:=deleteQ_sp a.Tb (l1 ++ w' :: l2) Tab.X ((P5,.row 109 1 [.ptr w'.X 0 0]) :: (tabS w' ++ (tabsS l1 ++ tabsS l2))) 170 [.ptr P5 0 0] (fun x=>decide (x.ks = w'.ks)) rfl (by rw [← hln];omega) (take1_all P5 l1 l2 w' (by rw [hw'];exact hdn.ord))
   rw [hflt] at hdel
   rw [← hZ]
   refine AWP.perm (S':=(K,.row 42 2 ((tComps w n).map (compA false))) :: (a.A,.row 107 4 [.agg [kindsA false false a.kinds,.sl a.G 0 a.gens.length,.sl a.Tb 0 (l1 ++ w' :: l2).length,.mp a.O]]) :: (a.G,.row 3 1 (a.gens.map iA)) :: (a.O,.ob (MapF Tryz.prog 3 109 (delG a.g n) (a.c - 1))) :: (a.Tv,.tv a.K) :: (((a.Tb,.row 109 1 (ptrs Tab.X (l1 ++ w' :: l2))) :: ((P5,.row 109 1 [.ptr w'.X 0 0]) :: (tabS w' ++ (tabsS l1 ++ tabsS l2)))) ++ Sf)) ?_ ?_
   ·refine List.Perm.cons _ ?_
    have h1:=perm_mid [(a.A,AO.row 107 4 [.agg [kindsA false false a.kinds,.sl a.G 0 a.gens.length,.sl a.Tb 0 (l1 ++ w' :: l2).length,.mp a.O]]),(a.G,.row 3 1 (a.gens.map iA)),(a.O,.ob (MapF Tryz.prog 3 109 (delG a.g n) (a.c - 1))),(a.Tv,.tv a.K),(a.Tb,.row 109 1 (ptrs Tab.X (l1 ++ w' :: l2)))] [(P5,.row 109 1 [.ptr w'.X 0 0])] (tabS w' ++ (tabsS l1 ++ (tabsS l2 ++ Sf)))
    refine List.Perm.trans (List.Perm.of_eq ?_) (h1.symm.trans (List.Perm.of_eq ?_))
    ·simp only [List.cons_append,List.append_assoc,List.nil_append]
     rfl
    ·simp only [List.cons_append,List.append_assoc,List.nil_append]
   (repeat first | refine AOps.nil ?_ | refine WF ?_)
   (repeat refine WF ?_);refine AWP.region ?_;(repeat (first | (refine AOps.gN ?_;first | refine AOps.ut2 [_,_,_,_,_] (h:=hdel) (k:=fun Y=>?_)) | refine WO ?_ | refine All.i fun X=>?_ | refine AllY.i fun Y=>?_));refine AOps.nil ?_;(repeat refine WN ?_)
   dsimp only [setAll,List.set_cons_zero,List.set_cons_succ,List.cons_append,List.nil_append]
   refine AWP.front Y ?_;refine AWP.front a.Tv ?_;refine AWP.front a.O ?_;refine AWP.front a.G ?_;refine AWP.front a.A ?_;refine AWP.front P5 ?_;refine AWP.front K ?_
   have hla:lessA a l1 l2 w n Y = { a with Tb:=Y,ts:=l1 ++ l2,g:=delG a.g n,c:=a.c - 1 }:=if_pos h0
   rw [show (ptrs Tab.X (l1 ++ l2)).length = (l1 ++ l2).length from List.length_map _]
   (repeat refine WF ?_);refine AWP.region ?_;(repeat (first | refine WO ?_ | refine All.i fun X=>?_ | refine AllY.i fun Y=>?_));refine AOps.nil ?_;(repeat refine WN ?_)
   (refine AWP.ret ?_;(repeat (first | refine inB_r ?_ | refine andThen_r ?_));refine retQ_r ?_)
   refine ⟨[.sl K 0 (tComps w n).length],[.lst true 42 2 ((tComps w n).map (compA false))],_,arS (lessA a l1 l2 w n Y),.cons (.tmp rfl) rfl .nil,.cons (.cell (.sl (p:=0) .here (by simp))) .nil,?_,Y,trivial,rfl,rfl⟩
   rw [hla]
   have hsub:(tabsS (l1 ++ l2) ++ Sf).Sublist ((tabS w' ++ (tabsS l1 ++ tabsS l2)) ++ Sf):=by
    rw [tabsS_app];exact (List.sublist_append_right _ _).append_right _
   exact .cons _ (.cons_cons _ (.cons_cons _ (.cons_cons _ (.cons_cons _ (.cons_cons _ hsub)))))
  ·have h0:¬ (stDrop w.es n).length = 0:=by rw [decide_eq_false_iff_not] at h0;omega
   have hla:lessA a l1 l2 w n 0 = { a with ts:=l1 ++ w' :: l2,g:=delG a.g n,c:=a.c - 1 }:=by rw [hw'];exact if_neg h0
   have hop2:=tabs_open (l1:=l1) (l2:=l2) (t:=w') Sf
   rw [hZ] at hop2
   refine AWP.perm (S':=(K,.row 42 2 ((tComps w n).map (compA false))) :: (P5,.row 109 1 [.ptr w'.X 0 0]) :: (arH { a with ts:=l1 ++ w' :: l2,g:=delG a.g n,c:=a.c - 1 } ++ (tabsS (l1 ++ w' :: l2) ++ Sf))) (List.Perm.cons _ (List.Perm.cons _ (hop2.symm.append_left (arH { a with ts:=l1 ++ w' :: l2,g:=delG a.g n,c:=a.c - 1 })))) ?_
   rw [← List.append_assoc]
   (repeat first | refine AOps.nil ?_ | refine WF ?_)
   (repeat refine WF ?_);refine AWP.region ?_;(repeat (first | refine WO ?_ | refine All.i fun X=>?_ | refine AllY.i fun Y=>?_));refine AOps.nil ?_;(repeat refine WN ?_)
   (refine AWP.ret ?_;(repeat (first | refine inB_r ?_ | refine andThen_r ?_));refine retQ_r ?_)
   refine ⟨[.sl K 0 (tComps w n).length],[.lst true 42 2 ((tComps w n).map (compA false))],_,arS (lessA a l1 l2 w n 0),.cons (.tmp rfl) rfl .nil,.cons (.cell (.sl (p:=0) .here (by simp))) .nil,?_,0,trivial,rfl,rfl⟩
   rw [hla]
   exact .cons _ (List.Sublist.refl _)
theorem entEql (a b c d:Int) (w:World):(binOp .eql 32 (.agg #[.int .i64 a,.int .i64 b]) (.agg #[.int .i64 c,.int .i64 d])).run Tryz.prog w = .ok (.bool (decide (a = c) && decide (b = d))) w :=
 eql_two (by kernel_rfl) (by kernel_rfl) (by kernel_rfl) a b c d w
def sameE (a b:Ent):Bool:=decide (a.n = b.n) && decide (a.gen = b.gen)
theorem sameE_dec (a b:Ent):sameE a b = decide (a = b):=by
 obtain ⟨n,g⟩:=a
 obtain ⟨n',g'⟩:=b
 rw [Bool.eq_iff_iff]
 simp [sameE]
theorem ar_front {a:Ar} {l1 l2:List Tab} {t:Tab} (h:a.ts = l1 ++ t :: l2) (Sf:List Slot):(arS a ++ Sf).Perm (arH a ++ (tabH t :: (stE t.ek t.es ++ (colsS t.cs ++ (tabsS l1 ++ (tabsS l2 ++ Sf)))))):=by
 rw [arS,List.append_assoc]
 refine List.Perm.append_left _ ?_
 rw [h]
 exact (tabs_open Sf).trans (List.Perm.of_eq (by simp only [List.cons_append,List.append_assoc]))
def hasA (a:Ar) (e:Ent):Bool:=decide (e ∈ (arItems a.ts).map (·.ent))
theorem hasA_iff {a:Ar} (h:ArOK a) {e:Ent} {t:Tab} (ht:t ∈ a.ts) {v:Ent} (hm:(e.n,v) ∈ t.es):hasA a e = decide (v = e):=by
 unfold hasA
 refine decide_eq_decide.2 ⟨fun he=>?_,fun he=>?_⟩
 ·obtain ⟨it,hit,rfl⟩:=List.mem_map.1 he
  obtain ⟨u,hu,hit⟩:=List.mem_flatMap.1 hit
  obtain ⟨p,hp,rfl⟩:=List.mem_map.1 hit
  have hpn:=h.ent u hu p hp
  have h1:p.2.n ∈ keysC u.es:=List.mem_map.2 ⟨p,hp,hpn⟩
  have h2:p.2.n ∈ keysC t.es:=List.mem_map.2 ⟨_,hm,rfl⟩
  have:=h.uniq ht hu h2 h1
  subst this
  have hto:=h.tab t ht
  have h3:=(stGet_mem hto.es).2 hm
  have h4:=(stGet_mem hto.es).2 (show (p.2.n,p.2) ∈ t.es by rw [← hpn];exact hp)
  rw [h3] at h4
  injection h4
 ·subst he
  refine List.mem_map.2 ⟨⟨v,tComps t v.n⟩,List.mem_flatMap.2 ⟨t,ht,List.mem_map.2 ⟨_,hm,rfl⟩⟩,rfl⟩
theorem hasA_no {a:Ar} (h:ArOK a) {e:Ent} (hg:a.g e.n = none):hasA a e = false:=by
 unfold hasA
 refine decide_eq_false fun he=>?_
 obtain ⟨it,hit,rfl⟩:=List.mem_map.1 he
 obtain ⟨u,hu,hit⟩:=List.mem_flatMap.1 hit
 obtain ⟨p,hp,rfl⟩:=List.mem_map.1 hit
 have hpn:=h.ent u hu p hp
 have:=h.gn p.2.n (List.mem_flatMap.2 ⟨u,hu,List.mem_map.2 ⟨p,hp,hpn⟩⟩)
 rw [hg] at this
 cases this
set_option maxRecDepth 8000 in
theorem has_sp (a:Ar) (ha:ArOK a) (e:Ent) (hn:I64 e.n):Spec Tryz.prog 154 [.ptr a.A 0 0,entA e] (arS a) fun r S'=>r = bA (hasA a e) ∧ S' = arS a:=by
 refine Spec.of (nt:=30) (res:=[.tmp 4]) Tryz.func154 rfl (by kernel_rfl) rfl rfl rfl fun Sf=>?_
 cases hg:a.g e.n with
 | none =>
  have hgd:(a.g e.n).getD (.pointer none) = .pointer none:=by rw [hg];rfl
  rw [hasA_no ha hg]
  (repeat refine WF ?_);refine AWP.region ?_;(repeat (first | refine WO ?_ | refine All.i fun B=>?_ | refine AllY.i fun Y=>?_));refine AOps.nil ?_;(repeat refine WN ?_)
  (repeat first | refine AOps.nil ?_ | refine WF ?_)
  (repeat refine WF ?_);refine AWP.region_run (by kernel_rfl) (by kernel_rfl) ?_;(repeat (first | (refine RGo.gN ?_;first | refine RGo.go (h:=W.look1 _ hgd hn rfl rfl (by exact At.f)) (k:=?_)) | (refine RGo.gQ ?_;first | refine RGo.go (h:=W.look1 _ hgd hn rfl rfl (by exact At.f)) (k:=?_)) | refine RK ?_ | refine RGo.nil (by kernel_rfl) ?_))
  (repeat first | refine AOps.nil ?_ | refine WF ?_)
  (repeat refine WF ?_);refine AWP.region ?_;(repeat (first | (refine AOps.gN ?_;first | refine AOps.go (h:=W.eqNil true (.inl ⟨rfl,rfl⟩) rfl rfl) (k:=?_)) | refine WO ?_ | refine All.i fun X=>?_ | refine AllY.i fun Y=>?_));refine AOps.nil ?_;(repeat refine WN ?_)
  refine AWP.cond_t rfl rfl ?_
  (repeat first | refine AOps.nil ?_ | refine WF ?_)
  (repeat refine WF ?_);refine AWP.region ?_;(repeat (first | refine WO ?_ | refine All.i fun X=>?_ | refine AllY.i fun Y=>?_));refine AOps.nil ?_;(repeat refine WN ?_)
  (refine AWP.ret ?_;(repeat (first | refine inB_r ?_ | refine andThen_r ?_));refine retQ_r ?_)
  exact Ends.sp [bA false] (arS a) ⟨rfl,rfl⟩
 | some u =>
  obtain ⟨t,ht,htn,hK,b,hb⟩:=ha.g e.n u hg
  have hto:=ha.tab t ht
  obtain ⟨⟨m,v⟩,hm,hme⟩:=List.mem_map.1 htn
  have hme:m = e.n:=hme
  subst hme
  rw [hasA_iff ha ht hm]
  have hgt:=getE_yes t.ek t.es hto.es e.n hn v ((stGet_mem hto.es).2 hm)
  have hgd:(a.g e.n).getD (.pointer none) = u:=by rw [hg];rfl
  have hone:u.oneCell' = true:=by rw [hb];rfl
  obtain ⟨l1,l2,hts⟩:=List.append_of_mem ht
  (repeat refine WF ?_);refine AWP.region ?_;(repeat (first | refine WO ?_ | refine All.i fun B=>?_ | refine AllY.i fun Y=>?_));refine AOps.nil ?_;(repeat refine WN ?_)
  (repeat first | refine AOps.nil ?_ | refine WF ?_)
  (repeat refine WF ?_);refine AWP.region_run (by kernel_rfl) (by kernel_rfl) ?_;(repeat (first | (refine RGo.gN ?_;first | refine RGo.go (h:=W.look1 _ hgd hn rfl rfl (by exact At.f) hone) (k:=?_)) | (refine RGo.gQ ?_;first | refine RGo.go (h:=W.look1 _ hgd hn rfl rfl (by exact At.f) hone) (k:=?_)) | refine RK ?_ | refine RGo.nil (by kernel_rfl) ?_))
  (repeat first | refine AOps.nil ?_ | refine WF ?_)
  (repeat refine WF ?_);refine AWP.region ?_;(repeat (first | (refine AOps.gN ?_;first | refine AOps.go (h:=W.eqNil false (.inr ⟨b,hb,rfl⟩) rfl rfl) (k:=?_)) | refine WO ?_ | refine All.i fun X=>?_ | refine AllY.i fun Y=>?_));refine AOps.nil ?_;(repeat refine WN ?_)
  refine AWP.cond_f rfl rfl ?_
  (repeat first | refine AOps.nil ?_ | refine WF ?_)
  refine AWP.asPtr 5 (.ptr t.X 0 0) hK ?_
  refine AWP.perm (List.Perm.cons _ (ar_front hts Sf)) ?_
  refine AWP.rs fun Y=>?_
  (repeat refine WF ?_)
  refine AWP.region_runT 8 (by kernel_rfl) (by kernel_rfl) ?_
  refine RGoT.go ?_
  refine RGoT.go ?_
  refine RGoT.go ?_
  refine RGoT.go ?_
  refine RGoT.go ?_
  refine RGoT.go ?_
  refine RGoT.callK (xs:=[(.tmp 21,.ptr t.ek.X 0 0),(.tmp 23,iA e.n)]) (L:=[_,_,_,_,_,_,_,_]) (R:=colsS t.cs ++ (tabsS l1 ++ (tabsS l2 ++ Sf))) hgt (.fz (v:=.tup [entA v,bA true])) rfl (Nat.le_refl 8) (.cons rfl (.cons rfl .nil)) rfl rfl ?_
  refine RGoT.go ?_
  refine RGoT.go ?_
  refine RGoT.go ?_
  refine RGoT.goS (h:=W.alloc .here (.inl rfl)) ?_
  refine RGoT.goS ?_
  refine RGoT.go ?_
  refine RGoT.nil (by kernel_rfl) ?_
  dsimp only [setAll,List.set_cons_zero,List.set_cons_succ,List.cons_append,List.nil_append]
  refine AWP.rowEq Y (show _ = [entA v] from rfl) ?_
  dsimp only [List.set_cons_zero]
  have hd:decide (v = e) = (decide (v.n = e.n) && decide (v.gen = e.gen)):=by
   cases v;cases e
   simp only [Ent.mk.injEq,Bool.decide_and]
  rw [hd]
  (repeat first | refine AOps.nil ?_ | refine WF ?_)
  (repeat refine WF ?_);refine AWP.region ?_;(repeat (first | (refine AOps.gN ?_;first | refine AOps.go (h:=W.eqP _ _ (by kernel_rfl) (entEql v.n v.gen e.n e.gen) rfl rfl) (k:=?_)) | refine WO ?_ | refine All.i fun X=>?_ | refine AllY.i fun Y=>?_));refine AOps.nil ?_;(repeat refine WN ?_)
  (repeat first | refine AOps.nil ?_ | refine WF ?_)
  refine AWP.perm (List.Perm.cons _ (List.Perm.cons _ (ar_front hts Sf).symm)) ?_
  (refine AWP.ret ?_;(repeat (first | refine inB_r ?_ | refine andThen_r ?_));refine retQ_r ?_)
  exact Ends.sp [bA (decide (v.n = e.n) && decide (v.gen = e.gen))] (arS a) ⟨rfl,rfl⟩
theorem hasA_at {a:Ar} (h:ArOK a) {e:Ent} (hh:hasA a e = true):∃ l1 l2 t,a.ts = l1 ++ t :: l2 ∧ (e.n,e) ∈ t.es:=by
 unfold hasA at hh
 obtain ⟨it,hit,rfl⟩:=List.mem_map.1 (of_decide_eq_true hh)
 obtain ⟨u,hu,hit⟩:=List.mem_flatMap.1 hit
 obtain ⟨p,hp,rfl⟩:=List.mem_map.1 hit
 obtain ⟨l1,l2,hl⟩:=List.append_of_mem hu
 refine ⟨l1,l2,u,hl,?_⟩
 have:=h.ent u hu p hp
 show (p.2.n,p.2) ∈ u.es
 rw [← this];exact hp
structure KillR (a:Ar) (e:Ent) (b:Ar):Prop where
 ok:ArOK b
 ne:ArNE b.ts
 A:b.A = a.A
 kinds:b.kinds = a.kinds
 gens:b.gens = a.gens.set e.n.toNat ((a.gens[e.n.toNat]?).getD 0 + 1)
 items:∃ l,(arItems a.ts).Perm (⟨e,l⟩ :: arItems b.ts)
theorem kill_no (a:Ar) (ha:ArOK a) (e:Ent) (hn:I64 e.n) (hh:hasA a e = false):Spec Tryz.prog 133 [.ptr a.A 0 0,entA e] (arS a) fun r S'=>r = iA 4 ∧ S' = arS a:=by
 have hs:=has_sp a ha e hn
 rw [hh] at hs
 refine Spec.of (nt:=23) (res:=[.tmp 4]) Tryz.func133 rfl (by kernel_rfl) rfl rfl rfl fun Sf=>?_
 (repeat refine WF ?_);refine AWP.region ?_;(repeat (first | refine WO ?_ | refine All.i fun B=>?_ | refine AllY.i fun Y=>?_));refine AOps.nil ?_;(repeat refine WN ?_)
 (repeat first | refine AOps.nil ?_ | refine WF ?_)
 (repeat refine WF ?_);refine AWP.region ?_;(repeat (first | (refine AOps.gN ?_;first | refine AOps.u2 [_] (h:=hs) (k:=?_)) | refine WO ?_ | refine All.i fun X=>?_ | refine AllY.i fun Y=>?_));refine AOps.nil ?_;(repeat refine WN ?_)
 refine AWP.cond_t rfl rfl ?_
 (repeat first | refine AOps.nil ?_ | refine WF ?_)
 (repeat refine WF ?_);refine AWP.region ?_;(repeat (first | refine WO ?_ | refine All.i fun X=>?_ | refine AllY.i fun Y=>?_));refine AOps.nil ?_;(repeat refine WN ?_)
 (refine AWP.ret ?_;(repeat (first | refine inB_r ?_ | refine andThen_r ?_));refine retQ_r ?_)
 exact Ends.sp [iA 4] (arS a) ⟨rfl,rfl⟩
theorem kill_yes (a:Ar) (ha:ArOK a) (hne:ArNE a.ts) (e:Ent) (hn:I64 e.n) (hh:hasA a e = true) (hg:e.n.toNat < a.gens.length) (hgl:a.gens.length ≤ 256) (hgb:∀ g ∈ a.gens,0 ≤ g ∧ g ≤ 1073741824):Spec Tryz.prog 133 [.ptr a.A 0 0,entA e] (arS a) fun r S'=>∃ b:Ar,KillR a e b ∧ r = iA 0 ∧ S' = arS b:=by
 obtain ⟨l1,l2,t,hts,hm⟩:=hasA_at ha hh
 have hto:=ha.tab t (by rw [hts];simp)
 have hnk:e.n ∈ keysC t.es:=List.mem_map.2 ⟨_,hm,rfl⟩
 have hnl:=hto.es.lt _ hnk
 have hs:=has_sp a ha e hn
 rw [hh] at hs
 have htk:=take_sp a ha hne hts hnk
 obtain ⟨⟨n,g⟩,he⟩:∃ e',e = e':=⟨_,rfl⟩
 subst he
 dsimp only at hn hg hm hnk hnl hs htk
 obtain ⟨i,hi⟩:∃ i:Nat,n = i:=⟨n.toNat,by omega⟩
 subst hi
 rw [Int.toNat_natCast] at hg
 refine Spec.of (nt:=23) (res:=[.tmp 4]) Tryz.func133 rfl (by kernel_rfl) rfl rfl rfl fun Sf=>?_
 (repeat refine WF ?_);refine AWP.region ?_;(repeat (first | refine WO ?_ | refine All.i fun B=>?_ | refine AllY.i fun Y=>?_));refine AOps.nil ?_;(repeat refine WN ?_)
 (repeat first | refine AOps.nil ?_ | refine WF ?_)
 (repeat refine WF ?_);refine AWP.region ?_;(repeat (first | (refine AOps.gN ?_;first | refine AOps.u2 [_] (h:=hs) (k:=?_)) | refine WO ?_ | refine All.i fun X=>?_ | refine AllY.i fun Y=>?_));refine AOps.nil ?_;(repeat refine WN ?_)
 refine AWP.cond_f rfl rfl ?_
 (repeat first | refine AOps.nil ?_ | refine WF ?_)
 (repeat refine WF ?_);refine AWP.region ?_;(repeat (first | (refine AOps.gN ?_;first | refine AOps.pt2 [_] (h:=htk) (k:=fun Y _ K=>?_)) | refine WO ?_ | refine All.i fun X=>?_ | refine AllY.i fun Y=>?_));refine AOps.nil ?_;(repeat refine WN ?_)
 obtain ⟨hok,hne2,hA,hki,hge,hit⟩:=lessA_ok ha hne hts hm Y
 obtain ⟨b,hb⟩:∃ b,lessA a l1 l2 t (i:Nat) Y = b:=⟨_,rfl⟩
 rw [hb] at hok hne2 hA hki hge hit ⊢
 rw [← hA]
 have hgm:a.gens[i] ∈ a.gens:=List.getElem_mem hg
 have hgr:=hgb _ hgm
 rw [← hge] at hg hgl
 have hgq:a.gens[i] = b.gens[i]:=by simp only [hge]
 rw [hgq] at hgr
 have hat:(b.gens.map iA)[i]? = some (iA b.gens[i]):=map_at _ hg
 have hgml:(b.gens.map iA).length = b.gens.length:=List.length_map _
 (repeat first | refine AOps.nil ?_ | refine WF ?_)
 (repeat refine WF ?_);refine AWP.region_run (by kernel_rfl) (by kernel_rfl) ?_;(repeat (first | (refine RGo.gN ?_;first | refine RGo.go (h:=W.idx (a:=i) rfl rfl (by exact At.f) rfl (by omega) (Nat.zero_add _)) (k:=?_)) | (refine RGo.gQ ?_;first | refine RGo.go (h:=W.idx (a:=i) rfl rfl (by exact At.f) rfl (by omega) (Nat.zero_add _)) (k:=?_)) | refine RK ?_ | refine RGo.nil (by kernel_rfl) ?_))
 dsimp only [setAll,List.set_cons_zero,List.set_cons_succ,List.cons_append,List.nil_append]
 have hset:(b.gens.map iA).set i (iA (b.gens[i] + 1)) = (b.gens.set i (b.gens[i] + 1)).map iA:=(List.map_set ..).symm
 rw [hset]
 have hsl:b.gens.length = (b.gens.set i (b.gens[i] + 1)).length:=List.length_set.symm
 obtain ⟨b',hb'⟩:∃ b':Ar,b' = { b with gens:=b.gens.set i (b.gens[i] + 1) }:=⟨_,rfl⟩
 refine AWP.perm (S':=(K,.row 42 2 ((tComps t (i:Nat)).map (compA false))) :: (B,.row 32 2 [entA ⟨i,g⟩]) :: (arS b' ++ Sf)) (List.Perm.of_eq (by rw [hb'];show _ = (K,_) :: (B,_) :: ((arH { b with gens:=b.gens.set i (b.gens[i] + 1) } ++ tabsS b.ts) ++ Sf);rw [arH];dsimp only;rw [← hsl];rfl)) ?_
 (repeat refine WF ?_);refine AWP.region ?_;(repeat (first | refine WO ?_ | refine All.i fun X=>?_ | refine AllY.i fun Y=>?_));refine AOps.nil ?_;(repeat refine WN ?_)
 (refine AWP.ret ?_;(repeat (first | refine inB_r ?_ | refine andThen_r ?_));refine retQ_r ?_)
 have hgd:(a.gens[i]?).getD 0 = b.gens[i]:=by rw [← hge,List.getElem?_eq_getElem hg];rfl
 have hk:KillR a ⟨i,g⟩ b':=by
  rw [hb']
  exact ⟨⟨hok.tab,hok.ord,hok.keys,hok.ent,hok.g,hok.gn,hok.cnt⟩,hne2,hA,hki,by show b.gens.set i _ = a.gens.set ((i:Int).toNat) _;rw [Int.toNat_natCast,hgd];exact congrArg (fun x=>x.set i (b.gens[i] + 1)) hge,⟨_,hit⟩⟩
 exact Ends.sp [iA 0] (arS b') ⟨b',hk,rfl,rfl⟩
theorem nanS_ps (a:Int):PS Tryz.prog 165 [iA a] (bA false):=by
 refine Spec.of (nt:=6) (res:=[.tmp 2]) Tryz.func165 rfl (by kernel_rfl) rfl rfl rfl fun Sf=>?_
 (repeat (first | refine WK ?_ | refine All.i fun X=>?_ | refine AllY.i fun Y=>?_))
 (refine AWP.ret ?_;(repeat (first | refine inB_r ?_ | refine andThen_r ?_));refine retQ_r ?_);refine Ends.ps ?_
 have:decide (a ≠ a) = false:=decide_eq_false (by simp)
 rw [this]
theorem less_ps (a b:Int):PS Tryz.prog 164 [iA a,iA b] (bA (decide (a < b))):=by
 refine Spec.of (nt:=17) (res:=[.tmp 4]) Tryz.func164 rfl (by kernel_rfl) rfl rfl rfl fun Sf=>?_
 (repeat refine WF ?_);refine AWP.region ?_;(repeat (first | (refine AOps.gN ?_;first | (refine AOps.g_callf ?_;first | refine AOps.c1 (h:=(isNaN_ps a)) (k:=?_) | refine AOps.c1 (h:=(isNaN_ps b)) (k:=?_))) | refine WO ?_ | refine All.i fun X=>?_ | refine AllY.i fun Y=>?_));refine AOps.nil ?_;(repeat refine WN ?_)
 (repeat first | refine AOps.nil ?_ | refine WF ?_)
 (repeat refine WF ?_);refine AWP.region ?_;(repeat (first | (refine AOps.gN ?_;first | (refine AOps.g_callf ?_;first | refine AOps.c1 (h:=(isNaN_ps a)) (k:=?_) | refine AOps.c1 (h:=(isNaN_ps b)) (k:=?_))) | refine WO ?_ | refine All.i fun X=>?_ | refine AllY.i fun Y=>?_));refine AOps.nil ?_;(repeat refine WN ?_)
 (refine AWP.ret ?_;(repeat (first | refine inB_r ?_ | refine andThen_r ?_));refine retQ_r ?_)
 exact Ends.sp [bA (decide (a < b))] [] ⟨rfl,rfl⟩
def lowI (l:List Int) (n:Int):Nat:=(l.filter fun x=>decide (x < n)).length
theorem lowI_at {l:List Int} {n:Int} {i:Nat} (hi:i ≤ l.length) (h1:∀ k (h:k < l.length),k < i → l[k] < n) (h2:∀ k (h:k < l.length),i ≤ k → n ≤ l[k]):lowI l n = i:=by
 unfold lowI
 have e:l.filter (fun x=>decide (x < n)) = l.take i:=by
  conv=>lhs;rw [← List.take_append_drop i l]
  rw [List.filter_append,List.filter_eq_self.2,List.filter_eq_nil_iff.2,List.append_nil]
  ·intro x hx
   obtain ⟨k,hk,rfl⟩:=List.mem_iff_getElem.1 hx
   rw [List.length_drop] at hk
   rw [List.getElem_drop]
   have:=h2 (i + k) (by omega) (by omega)
   simp;omega
  ·intro x hx
   obtain ⟨k,hk,rfl⟩:=List.mem_take_iff_getElem.1 hx
   have:=h1 k (by omega) (by omega)
   simp;omega
 rw [e,List.length_take];omega
theorem binS_ps (l:List Int) (n:Int) (hs:l.Pairwise (· < ·)) (hl:l.length ≤ 1099511627776):PS Tryz.prog 155 [intsA false l,iA n] (.tup [iA (lowI l n:Nat),bA (decide (n ∈ l))]):=by
 have hml:(l.map iA).length = l.length:=List.length_map _
 have hsp:=List.pairwise_iff_getElem.1 hs
 refine Spec.of (nt:=54) (res:=[.tmp 4,.tmp 5]) Tryz.func155 rfl (by kernel_rfl) rfl rfl rfl fun Sf=>?_
 (repeat refine WF ?_);refine AWP.region ?_;(repeat (first | refine WO ?_ | refine All.i fun X=>?_ | refine AllY.i fun Y=>?_));refine AOps.nil ?_;(repeat refine WN ?_)
 (repeat first | refine AOps.nil ?_ | refine WF ?_)
 (repeat refine WF ?_);refine AWP.region ?_;(repeat (first | refine WO ?_ | refine All.i fun X=>?_ | refine AllY.i fun Y=>?_));refine AOps.nil ?_;(repeat refine WN ?_)
 (repeat first | refine AOps.nil ?_ | refine WF ?_)
 (repeat refine WF ?_);refine AWP.region ?_;(repeat (first | refine WO ?_ | refine All.i fun X=>?_ | refine AllY.i fun Y=>?_));refine AOps.nil ?_;(repeat refine WN ?_)
 (repeat first | refine AOps.nil ?_ | refine WF ?_)
 rw [hml]
 refine AWP.lp2 (fun (i j:Nat)=>⟨[(0,intsA false l),(1,iA n),(6,iA l.length),(7,iA i),(8,iA j)],Sf⟩) (fun i j=>i ≤ j ∧ j ≤ l.length ∧ (∀ k (h:k < l.length),k < i → l[k] < n) ∧ ∀ k (h:k < l.length),j ≤ k → n ≤ l[k]) (fun i j=>j - i) 0 l.length ⟨Nat.zero_le _,Nat.le_refl _,fun k h1 h2=>absurd h2 (by omega),fun k h1 h2=>absurd h2 (by omega)⟩ ?_
 rintro i j ⟨hij,hjn,hlo,hhi⟩
 (repeat refine WF ?_);refine AWP.region ?_;(repeat (first | refine WO ?_ | refine All.i fun X=>?_ | refine AllY.i fun Y=>?_));refine AOps.nil ?_;(repeat refine WN ?_)
 (repeat first | refine AOps.nil ?_ | refine WF ?_)
 refine AWP.cond rfl (fun hc=>?_) (fun hc=>?_)
 ·have h:i < j:=by rw [decide_eq_true_eq] at hc;omega
  have hmid:((i:Int) + j).fdiv (2 ^ 1) = (((i + j) / 2:Nat):Int):=by
   rw [Int.fdiv_eq_ediv_of_nonneg _ (by decide)];omega
  have hw1:IntKind.u64.wrap ((i:Int) + j) = i + j:=by rw [IntKind.wrap_u64];omega
  have hw2:IntKind.i64.wrap (((i:Int) + j).fdiv (2 ^ 1)) = ((i:Int) + j).fdiv (2 ^ 1):=by
   rw [IntKind.wrap_i64,hmid];omega
  (repeat first | refine AOps.nil ?_ | refine WF ?_)
  (repeat refine WF ?_);refine AWP.region ?_;(repeat (first | (refine AOps.gN ?_;first | refine AOps.p (W.conv .i64 .u64 (by kernel_rfl) (by kernel_rfl) rfl hw1) rfl ?_ | refine AOps.p (W.shr 1 rfl rfl rfl (by decide)) rfl ?_ | refine AOps.p (W.conv .u64 .i64 (by kernel_rfl) (by kernel_rfl) rfl hw2) rfl ?_) | refine WO ?_ | refine All.i fun X=>?_ | refine AllY.i fun Y=>?_));refine AOps.nil ?_;(repeat refine WN ?_)
  rw [hmid]
  obtain ⟨m,hm⟩:∃ m,(i + j) / 2 = m:=⟨_,rfl⟩
  rw [hm]
  have hml2:m < l.length:=by omega
  have hmm:m < (l.map iA).length:=by omega
  have hat:(l.map iA)[m]? = some (iA l[m]):=by rw [List.getElem?_map,List.getElem?_eq_getElem hml2];rfl
  have hls:=less_ps l[m] n
  (repeat first | refine AOps.nil ?_ | refine WF ?_)
  (repeat refine WF ?_);refine AWP.region ?_;(repeat (first | (refine AOps.gN ?_;first | (refine AOps.g_callf ?_;first | refine AOps.c2 (h:=(hls ..)) (k:=?_))) | refine WO ?_ | refine All.i fun X=>?_ | refine AllY.i fun Y=>?_));refine AOps.nil ?_;(repeat refine WN ?_)
  (repeat first | refine AOps.nil ?_ | refine WF ?_)
  refine AWP.cond rfl (fun he=>?_) (fun he=>?_)
  ·have he:l[m] < n:=of_decide_eq_true he
   (repeat first | refine AOps.nil ?_ | refine WF ?_)
   (repeat refine WF ?_);refine AWP.region ?_;(repeat (first | refine WO ?_ | refine All.i fun X=>?_ | refine AllY.i fun Y=>?_));refine AOps.nil ?_;(repeat refine WN ?_)
   refine lp_next2 (m + 1) j ⟨by omega,hjn,fun k h1 h2=>?_,hhi⟩
   by_cases e:k = m
   ·subst e;exact he
   ·have:=hsp k m h1 hml2 (by omega);omega
  ·have he:¬ l[m] < n:=of_decide_eq_false he
   (repeat first | refine AOps.nil ?_ | refine WF ?_)
   (repeat refine WF ?_);refine AWP.region ?_;(repeat (first | refine WO ?_ | refine All.i fun X=>?_ | refine AllY.i fun Y=>?_));refine AOps.nil ?_;(repeat refine WN ?_)
   refine lp_next2 i m ⟨by omega,by omega,hlo,fun k h1 h2=>?_⟩
   by_cases e:k = m
   ·subst e;omega
   ·have:=hsp m k hml2 h1 (by omega);omega
 ·have h:i = j:=by rw [decide_eq_false_iff_not] at hc;omega
  subst h
  have hlw:=lowI_at hjn hlo hhi
  (repeat first | refine AOps.nil ?_ | refine WF ?_)
  by_cases hin:i < l.length
  ·have g1:decide ((i:Int) < (l.length:Nat)) = true:=decide_eq_true (by omega)
   have hmm:i < (l.map iA).length:=by omega
   have hat:(l.map iA)[i]? = some (iA l[i]):=by rw [List.getElem?_map,List.getElem?_eq_getElem hin];rfl
   by_cases he:l[i] = n
   ·have g2:decide (l[i] = n) = true:=decide_eq_true he
    have hmem:decide (n ∈ l) = true:=decide_eq_true (by rw [← he];exact List.getElem_mem hin)
    rw [hlw,hmem]
    (repeat refine WF ?_);refine AWP.region ?_;(repeat (first | (refine AOps.gQ ?_;first | refine AOps.goNU ?_ | refine AOps.goNV ?_) | refine WO ?_ | refine All.i fun X=>?_ | refine AllY.i fun Y=>?_));refine AOps.nil ?_;(repeat refine WN ?_)
    (refine AWP.ret ?_;(repeat (first | refine inB_r ?_ | refine andThen_r ?_));refine retQ_r ?_)
    rw [g1,g2]
    exact Ends.sp [iA i,bA true] [] ⟨rfl,rfl⟩
   ·have g2:decide (l[i] = n) = false:=decide_eq_false he
    have hmem:decide (n ∈ l) = false:=decide_eq_false fun hm=>by
     obtain ⟨k,hk,rfl⟩:=List.mem_iff_getElem.1 hm
     rcases Nat.lt_or_ge k i with h | h
     ·have:=hlo k hk h;omega
     ·have h3:k ≠ i:=fun e=>he (by subst e;rfl)
      have:=hsp i k hin hk (by omega)
      have:=hhi i hin (Nat.le_refl _);omega
    rw [hlw,hmem]
    (repeat refine WF ?_);refine AWP.region ?_;(repeat (first | (refine AOps.gN ?_;first | (refine AOps.g_callf ?_;first | refine AOps.c1 (h:=(nanS_ps l[i])) (k:=?_) | refine AOps.c1 (h:=(nanS_ps n)) (k:=?_))) | refine WO ?_ | refine All.i fun X=>?_ | refine AllY.i fun Y=>?_));refine AOps.nil ?_;(repeat refine WN ?_)
    (refine AWP.ret ?_;(repeat (first | refine inB_r ?_ | refine andThen_r ?_));refine retQ_r ?_)
    rw [g1,g2]
    exact Ends.sp [iA i,bA false] [] ⟨rfl,rfl⟩
  ·have g1:decide ((i:Int) < (l.length:Nat)) = false:=decide_eq_false (by omega)
   have hmem:decide (n ∈ l) = false:=decide_eq_false fun hm=>by
    obtain ⟨k,hk,rfl⟩:=List.mem_iff_getElem.1 hm
    have:=hlo k hk (by omega);omega
   rw [hlw,hmem]
   (repeat refine WF ?_);refine AWP.region ?_;(repeat (first | (refine AOps.gQ ?_;first | refine AOps.goNU ?_ | refine AOps.goNV ?_) | refine WO ?_ | refine All.i fun X=>?_ | refine AllY.i fun Y=>?_));refine AOps.nil ?_;(repeat refine WN ?_)
   (refine AWP.ret ?_;(repeat (first | refine inB_r ?_ | refine andThen_r ?_));refine retQ_r ?_)
   rw [g1]
   exact Ends.sp [iA i,bA false] [] ⟨rfl,rfl⟩
theorem eraseIdx_parts {α:Type} {l:List α} {i:Nat} (h:i < l.length) (z:List α):(l.take i ++ (l.drop (i + 1)).take (l.length - (i + 1)) ++ z).take (i + (l.length - (i + 1))) = l.eraseIdx i:=by
 rw [List.take_of_length_le (l:=l.drop (i + 1)) (by rw [List.length_drop];omega),List.eraseIdx_eq_take_drop_succ]
 rw [List.take_append_of_le_length (by simp;omega),List.take_of_length_le (by simp;omega)]
theorem deleteC_sp (X n i:Nat) (l:List AV) (hn:n = l.length) (hi:i < n) (hl:n ≤ 1099511627776) (hfr:FreeL l) (hw:∀ e ∈ l,e.width = 2) :
  Spec Tryz.prog 51 [.sl X 0 n,iA i,iA ((i:Int) + 1)] [(X,.row 42 2 l)] fun r S'=>r = .lst true 42 2 (l.eraseIdx i) ∧ S' = []:=by
 subst hn
 refine Spec.of (nt:=33) (res:=[.tmp 6]) Tryz.func51 rfl (by kernel_rfl) rfl rfl rfl fun Sf=>?_
 have h1:((i:Int) + 1) = ((i + 1:Nat):Int):=by omega
 (repeat refine WF ?_);refine AWP.region ?_;(repeat (first | refine WO ?_ | refine All.i fun X=>?_ | refine AllY.i fun Y=>?_));refine AOps.nil ?_;(repeat refine WN ?_)
 (repeat refine WF ?_);refine AWP.region ?_;(repeat (first | (refine AOps.gN ?_;first | refine AOps.p (W.slice3 (lo:=i) (hi:=i + 1) (mx:=l.length) rfl rfl rfl rfl (by exact At.f) rfl h1 rfl (by omega) (by omega) (Nat.le_refl _)) rfl ?_) | refine WO ?_ | refine All.i fun X=>?_ | refine AllY.i fun Y=>?_));refine AOps.nil ?_;(repeat refine WN ?_)
 (repeat refine WF ?_);refine AWP.region ?_;(repeat (first | refine WO ?_ | refine All.i fun X=>?_ | refine AllY.i fun Y=>?_));refine AOps.nil ?_;(repeat refine WN ?_)
 refine AWP.cond_f rfl (decide_eq_false (by omega)) ?_
 (repeat refine WF ?_);refine AWP.region ?_;(repeat (first | refine WO ?_ | refine All.i fun X=>?_ | refine AllY.i fun Y=>?_));refine AOps.nil ?_;(repeat refine WN ?_)
 have hel:(l.eraseIdx i).length = l.length - 1:=List.length_eraseIdx_of_lt hi
 rcases Nat.lt_or_ge (i + 1) l.length with hj | hj
 ·have hp:=eraseIdx_parts hi
  (repeat refine WF ?_);refine AWP.region_run (by kernel_rfl) (by kernel_rfl) ?_;(repeat (first | (refine RGo.gN ?_;first | refine RGo.p (W.hi rfl rfl (by exact At.f) rfl (by omega)) rfl ?_ | refine RGo.p (W.slice_lo (lo:=i + 1) rfl rfl (by exact At.f) h1 (by omega)) rfl ?_ | refine RGo.s (W.appS (l.length - (i + 1)) (by omega) (by omega) (by omega) hfr hw rfl rfl (by exact At.f)) rfl ?_) | (refine RGo.gQ ?_;first | refine RGo.p (W.hi rfl rfl (by exact At.f) rfl (by omega)) rfl ?_ | refine RGo.p (W.slice_lo (lo:=i + 1) rfl rfl (by exact At.f) h1 (by omega)) rfl ?_ | refine RGo.s (W.appS (l.length - (i + 1)) (by omega) (by omega) (by omega) hfr hw rfl rfl (by exact At.f)) rfl ?_) | refine RK ?_ | refine RGo.nil (by kernel_rfl) ?_))
  rw [Nat.zero_add]
  have hln:i + (l.length - (i + 1)) = l.length - 1:=by omega
  have hLl:(l.take i ++ (l.drop (i + 1)).take (l.length - (i + 1)) ++ l.drop (i + (l.length - (i + 1)))).length = l.length:=by simp only [List.length_append,List.length_take,List.length_drop];omega
  have hLp:=hp (l.drop (i + (l.length - (i + 1))))
  obtain ⟨L',hL'⟩:∃ L',l.take i ++ (l.drop (i + 1)).take (l.length - (i + 1)) ++ l.drop (i + (l.length - (i + 1))) = L':=⟨_,rfl⟩
  rw [hL'] at hLl hLp ⊢
  have key:∀ Z D,((L'.take (i + (l.length - (i + 1))) ++ Z) ++ D).take (i + (l.length - (i + 1))) = l.eraseIdx i:=fun Z D=>by
   rw [List.append_assoc,List.take_append_of_le_length (by rw [List.length_take];omega),List.take_take,Nat.min_self,hLp]
  (repeat refine WF ?_);refine AWP.region ?_;(repeat (first | (refine AOps.gN ?_;first | refine AOps.p (W.lohi (lo:=i + (l.length - (i + 1))) (hi:=l.length) rfl rfl rfl (by exact At.f) rfl rfl (by omega) (by omega)) rfl ?_ | refine AOps.s (W.clear rfl (by exact At.f) (by first | exact .inl rfl | exact .inr rfl) rfl (by omega)) rfl ?_) | refine WO ?_ | refine All.i fun X=>?_ | refine AllY.i fun Y=>?_));refine AOps.nil ?_;(repeat refine WN ?_)
  (repeat refine WF ?_);refine AWP.region ?_;(repeat (first | refine WO ?_ | refine All.i fun X=>?_ | refine AllY.i fun Y=>?_));refine AOps.nil ?_;(repeat refine WN ?_)
  refine AWP.shrink (X:=X) (i + (l.length - (i + 1))) ?_
  rw [Nat.zero_add,key]
  (refine AWP.ret ?_;(repeat (first | refine inB_r ?_ | refine andThen_r ?_));refine retQ_r ?_)
  exact ⟨[.sl X 0 (i + (l.length - (i + 1)))],[.lst true 42 2 (l.eraseIdx i)],_,[],.cons (.tmp rfl) rfl .nil,.cons (.cell (.sl (p:=0) .here (by rw [hel];omega))) .nil,by exact Sub.f,rfl,rfl⟩
 ·have hie:i = l.length - 1:=by omega
  have hl0:l.length - (i + 1) = 0:=by omega
  have hle:l.eraseIdx i = l.take i:=by rw [List.eraseIdx_eq_take_drop_succ,List.drop_of_length_le (by omega),List.append_nil]
  have key:∀ Z D,((l.take i ++ Z) ++ D).take i = l.eraseIdx i:=fun Z D=>by
   rw [List.append_assoc,List.take_append_of_le_length (by rw [List.length_take];omega),List.take_take,Nat.min_self,hle]
  (repeat refine WF ?_);refine AWP.region_run (by kernel_rfl) (by kernel_rfl) ?_;(repeat (first | (refine RGo.gN ?_;first | refine RGo.p (W.hi rfl rfl (by exact At.f) rfl (by omega)) rfl ?_ | (refine RGo.p (W.slice_lo (lo:=i + 1) rfl rfl (by exact At.f) h1 (by omega)) rfl ?_;rw [hl0]) | refine RGo.p (W.app0 rfl rfl (by exact At.f)) rfl ?_) | (refine RGo.gQ ?_;first | refine RGo.p (W.hi rfl rfl (by exact At.f) rfl (by omega)) rfl ?_ | (refine RGo.p (W.slice_lo (lo:=i + 1) rfl rfl (by exact At.f) h1 (by omega)) rfl ?_;rw [hl0]) | refine RGo.p (W.app0 rfl rfl (by exact At.f)) rfl ?_) | refine RK ?_ | refine RGo.nil (by kernel_rfl) ?_))
  (repeat refine WF ?_);refine AWP.region ?_;(repeat (first | (refine AOps.gN ?_;first | refine AOps.p (W.lohi (lo:=i) (hi:=l.length) rfl rfl rfl (by exact At.f) rfl rfl (by omega) (by omega)) rfl ?_ | refine AOps.s (W.clear rfl (by exact At.f) (by first | exact .inl rfl | exact .inr rfl) rfl (by omega)) rfl ?_) | refine WO ?_ | refine All.i fun X=>?_ | refine AllY.i fun Y=>?_));refine AOps.nil ?_;(repeat refine WN ?_)
  (repeat refine WF ?_);refine AWP.region ?_;(repeat (first | refine WO ?_ | refine All.i fun X=>?_ | refine AllY.i fun Y=>?_));refine AOps.nil ?_;(repeat refine WN ?_)
  refine AWP.shrink (X:=X) i ?_
  simp only [Nat.zero_add]
  rw [key]
  (refine AWP.ret ?_;(repeat (first | refine inB_r ?_ | refine andThen_r ?_));refine retQ_r ?_)
  exact ⟨[.sl X 0 i],[.lst true 42 2 (l.eraseIdx i)],_,[],.cons (.tmp rfl) rfl .nil,.cons (.cell (.sl (p:=0) .here (by rw [hel];omega))) .nil,by exact Sub.f,rfl,rfl⟩
def nextV (l:List Int) (n:Int):Int:=if n < 1 then 0 else match l with | []=>0 | x :: _=>x % n
def nextL (l:List Int) (n:Int):List Int:=if n < 1 then l else l.tail
theorem nextV_range (l:List Int) {n:Int} (h:1 ≤ n):0 ≤ nextV l n ∧ nextV l n < n:=by
 unfold nextV
 rw [if_neg (by omega)]
 split
 ·omega
 ·rename_i x _
  exact ⟨Int.emod_nonneg x (by omega),Int.emod_lt_of_pos x (by omega)⟩
def kindName (k:Nat):List UInt8:=match k with
 | 0=>[115,112,111,116]
 | 1=>[108,105,102,101]
 | 2=>[116,101,97,109]
 | _=>[103,111,97,108]
def fieldName (k:Nat):List UInt8:=match k with
 | 0=>[120]
 | 1=>[121]
 | _=>[122]
def genField (i:Nat) (l:List Int):Field × List Int :=
 if nextV (nextL (nextL l 9) 40) 8 = 7 then (⟨fieldName i,32,-2147483648⟩,nextL (nextL (nextL l 9) 40) 8)
 else (⟨fieldName i,1 + nextV l 9,nextV (nextL l 9) 40 - 30⟩,nextL (nextL (nextL l 9) 40) 8)
def genFields:Nat → Nat → List Int → List Field × List Int
 | _,0,l=>([],l)
 | i,c + 1,l=>((genField i l).1 :: (genFields (i + 1) c (genField i l).2).1,(genFields (i + 1) c (genField i l).2).2)
def genKind (k:Nat) (l:List Int):Kind × List Int :=
 (⟨kindName k,(genFields 0 (1 + nextV l 3).toNat (nextL l 3)).1⟩,(genFields 0 (1 + nextV l 3).toNat (nextL l 3)).2)
def genKindsFrom:Nat → Nat → List Int → List Kind × List Int
 | _,0,l=>([],l)
 | k,c + 1,l=>((genKind k l).1 :: (genKindsFrom (k + 1) c (genKind k l).2).1,(genKindsFrom (k + 1) c (genKind k l).2).2)
def genKinds (l:List Int):List Kind × List Int:=genKindsFrom 0 (1 + nextV l 4).toNat (nextL l 4)
theorem below_ps (x n:Int) (hn:1 ≤ n) (h2:n ≤ 4611686018427387904):PS Tryz.prog 46 [iA x,iA n] (iA (x % n)):=by
 refine Spec.of (nt:=14) (res:=[.tmp 4]) Tryz.func46 rfl (by kernel_rfl) rfl rfl rfl fun Sf=>?_
 have h3:x.tmod n < n:=Int.tmod_lt_of_pos _ (by omega)
 have h4 : -n < x.tmod n:=by
  have:=Int.lt_tmod_of_pos x (b:=n) (by omega)
  exact this
 have h5:x.tmod n = x % n ∨ x.tmod n + n = x % n ∧ x.tmod n < 0:=by
  rw [Int.tmod_eq_emod]
  split
  ·exact .inl (by simp)
  ·have:=Int.emod_nonneg x (b:=n) (by omega)
   have:=Int.emod_lt_of_pos x (b:=n) (by omega)
   refine .inr ?_
   have:((n.natAbs:Nat):Int) = n:=by omega
   omega
 have h6:=Int.emod_nonneg x (b:=n) (by omega)
 (repeat (first | (refine AOps.gN ?_;first | refine AOps.p (W.rem rfl rfl (by omega)) rfl ?_) | refine WK ?_ | refine All.i fun X=>?_ | refine AllY.i fun Y=>?_))
 refine AWP.cond rfl (fun hb=>?_) (fun hb=>?_)
 ·have hb:x.tmod n < 0:=by simpa using hb
  (repeat (first | refine WK ?_ | refine All.i fun X=>?_ | refine AllY.i fun Y=>?_))
  (refine AWP.ret ?_;(repeat (first | refine inB_r ?_ | refine andThen_r ?_));refine retQ_r ?_)
  exact Ends.plain rfl rfl (by exact Sub.f) ⟨by rw [show x.tmod n + n = x % n from by omega],rfl⟩
 ·have hb:¬ x.tmod n < 0:=by simpa using hb
  (repeat (first | refine WK ?_ | refine All.i fun X=>?_ | refine AllY.i fun Y=>?_))
  (refine AWP.ret ?_;(repeat (first | refine inB_r ?_ | refine andThen_r ?_));refine retQ_r ?_)
  exact Ends.plain rfl rfl (by exact Sub.f) ⟨by rw [show x.tmod n = x % n from by omega],rfl⟩
abbrev streamO (l:List Int):AO:=.row 74 1 [.agg [intsA false l]]
theorem next_po (X:Nat) (l:List Int) (n:Int) (h2:n ≤ 4611686018427387904):PO Tryz.prog 31 [.ptr X 0 0,iA n] X (streamO l) (iA (nextV l n)) (streamO (nextL l n)):=by
 refine Spec.of (nt:=33) (res:=[.tmp 4]) Tryz.func31 rfl (by kernel_rfl) rfl rfl rfl fun Sf=>?_
 (repeat (first | refine WK ?_ | refine All.i fun X=>?_ | refine AllY.i fun Y=>?_))
 refine AWP.cond rfl (fun hb=>?_) (fun hb=>?_)
 ·(repeat (first | refine WK ?_ | refine All.i fun X=>?_ | refine AllY.i fun Y=>?_))
  (refine AWP.ret ?_;(repeat (first | refine inB_r ?_ | refine andThen_r ?_));refine retQ_r ?_)
  have hb:l.length = 0 ∨ n < 1:=by simp only [Bool.or_eq_true,decide_eq_true_eq,List.length_map] at hb;omega
  have e1:nextV l n = 0:=by
   unfold nextV
   split
   ·rfl
   ·rcases hb with hb | hb
    ·rw [List.length_eq_zero_iff.1 hb]
    ·omega
  have e2:nextL l n = l:=by
   unfold nextL
   split
   ·rfl
   ·rcases hb with hb | hb
    ·rw [List.length_eq_zero_iff.1 hb];rfl
    ·omega
  rw [e1,e2]
  exact Ends.plainS rfl rfl (by exact Sub.f) ⟨rfl,rfl⟩
 ·have hb:l.length ≠ 0 ∧ 1 ≤ n:=by simp only [Bool.or_eq_false_iff,decide_eq_false_iff_not,List.length_map] at hb;omega
  obtain ⟨hb,hn⟩:=hb
  cases l with
  | nil=>exact absurd rfl hb
  | cons x l =>
  (repeat (first | (refine AOps.gN ?_;first | refine AOps.p (W.idxL rfl rfl (a:=0) rfl rfl) rfl ?_ | refine AOps.p (W.loL rfl rfl (a:=1) rfl (by simp)) rfl ?_ | refine AOps.p (W.call2 rfl rfl (below_ps _ _ hn h2) rfl) rfl ?_) | refine WK ?_ | refine All.i fun X=>?_ | refine AllY.i fun Y=>?_))
  (refine AWP.ret ?_;(repeat (first | refine inB_r ?_ | refine andThen_r ?_));refine retQ_r ?_)
  rw [show nextV (x :: l) n = x % n from by unfold nextV;rw [if_neg (by omega)],show nextL (x :: l) n = l from by unfold nextL;rw [if_neg (by omega)];rfl]
  exact Ends.plainS (S':=[(X,streamO l)]) rfl rfl (by exact Sub.f) ⟨rfl,rfl⟩
def fAt:Nat → List Int → List Field × List Int
 | 0,l=>([],l)
 | i + 1,l=>((fAt i l).1 ++ [(genField i (fAt i l).2).1],(genField i (fAt i l).2).2)
def kAt:Nat → List Int → List Kind × List Int
 | 0,l=>([],l)
 | i + 1,l=>((kAt i l).1 ++ [(genKind i (kAt i l).2).1],(genKind i (kAt i l).2).2)
theorem fAt_len (i:Nat) (l:List Int):(fAt i l).1.length = i:=by
 induction i with
 | zero=>rfl
 | succ i ih=>simp [fAt,ih]
theorem kAt_len (i:Nat) (l:List Int):(kAt i l).1.length = i:=by
 induction i with
 | zero=>rfl
 | succ i ih=>simp [kAt,ih]
theorem fAt_gen (c i:Nat) (l:List Int):((fAt i l).1 ++ (genFields i c (fAt i l).2).1,(genFields i c (fAt i l).2).2) = fAt (i + c) l:=by
 induction c generalizing i with
 | zero=>simp [genFields]
 | succ c ih =>
  rw [show i + (c + 1) = (i + 1) + c from by omega,← ih (i + 1)]
  simp [genFields,fAt]
theorem kAt_gen (c i:Nat) (l:List Int):((kAt i l).1 ++ (genKindsFrom i c (kAt i l).2).1,(genKindsFrom i c (kAt i l).2).2) = kAt (i + c) l:=by
 induction c generalizing i with
 | zero=>simp [genKindsFrom]
 | succ c ih =>
  rw [show i + (c + 1) = (i + 1) + c from by omega,← ih (i + 1)]
  simp [genKindsFrom,kAt]
theorem genFields_at (c:Nat) (l:List Int):genFields 0 c l = fAt c l:=by
 have:=fAt_gen c 0 l
 simpa [fAt] using this
theorem genKinds_at (l:List Int):genKinds l = kAt (1 + nextV l 4).toNat (nextL l 4):=by
 have:=kAt_gen (1 + nextV l 4).toNat 0 (nextL l 4)
 simpa [kAt,genKinds] using this
theorem knames_at {i:Nat} (h:i < 4):[sA [115,112,111,116],sA [108,105,102,101],sA [116,101,97,109],sA [103,111,97,108]][i]? = some (sA (kindName i)):=by
 have:i = 0 ∨ i = 1 ∨ i = 2 ∨ i = 3:=by omega
 rcases this with rfl | rfl | rfl | rfl <;> rfl
theorem fnames_at {i:Nat} (h:i < 3):[sA [120],sA [121],sA [122]][i]? = some (sA (fieldName i)):=by
 have:i = 0 ∨ i = 1 ∨ i = 2:=by omega
 rcases this with rfl | rfl | rfl <;> rfl
theorem kinds_po (G:Nat) (l:List Int):PO Tryz.prog 30 [.ptr G 0 0] G (streamO l) (kindsA true false (genKinds l).1) (streamO (genKinds l).2):=by
 refine Spec.of (nt:=55) (res:=[.tmp 2]) Tryz.func30 rfl (by kernel_rfl) rfl rfl rfl fun Sf=>?_
 have h0:=nextV_range l (n:=4) (by decide)
 (repeat (first | (refine AOps.gN ?_;first | (refine AOps.g_callf ?_;first | refine AOps.o2 (h:=(next_po G _ _ (by decide))) (k:=?_))) | refine WK ?_ | refine All.i fun X=>?_ | refine AllY.i fun Y=>?_))
 refine AWP.adopt (d:=3) 83 2 rfl fun K=>?_
 obtain ⟨c,hc⟩:∃ c:Nat,1 + nextV l 4 = c:=⟨(1 + nextV l 4).toNat,by omega⟩
 obtain ⟨l0,hl0⟩:∃ l0,nextL l 4 = l0:=⟨_,rfl⟩
 have hg:genKinds l = kAt c l0:=by rw [genKinds_at,hl0,show (1 + nextV l 4).toNat = c from by omega]
 rw [hg,hl0,hc]
 have hc4:1 ≤ c ∧ c ≤ 4:=by omega
 clear hg hl0 hc h0
 refine AWP.lp4 (fun (i K:Nat) (M:List AV) (q:List Int)=>⟨[(0,.ptr G 0 0),(3,.sl K 0 i),(10,iA c),(11,iA i)],(K,.row 83 2 M) :: (G,streamO q) :: Sf⟩) (fun i _ M q=>i ≤ c ∧ M = (kAt i l0).1.map (kindA false) ∧ M.length = i ∧ q = (kAt i l0).2) (fun i _ _ _=>c - i) 0 K [] l0 ⟨Nat.zero_le _,rfl,rfl,rfl⟩ ?_
 rintro i K M q ⟨hi,hM,hMl,hq⟩
 (repeat (first | refine WK ?_ | refine All.i fun X=>?_ | refine AllY.i fun Y=>?_))
 refine AWP.cond rfl (fun hb=>?_) (fun hb=>?_)
 ·have h:i < c:=by rw [decide_eq_true_eq] at hb;omega
  have h4:i < 4:=by omega
  have h3:=nextV_range q (n:=3) (by decide)
  have hkn:=knames_at h4
  (repeat (first | (refine AOps.gN ?_;first | (refine AOps.g_callf ?_;first | refine AOps.o2 (h:=(next_po G _ _ (by decide))) (k:=?_))) | refine WK ?_ | refine All.i fun Y=>?_ | refine AllY.i fun Y=>?_))
  refine AWP.adoptIn (Y:=Y) 85 3 .here (fun F=>.cons (.agg (.cons .same (.cons (.base .nil) .nil))) .nil) fun F=>?_
  obtain ⟨l1,hl1⟩:∃ l1,nextL q 3 = l1:=⟨_,rfl⟩
  obtain ⟨c1,hc1⟩:∃ c1:Nat,1 + nextV q 3 = c1:=⟨(1 + nextV q 3).toNat,by omega⟩
  have hgk:kAt (i + 1) l0 = ((kAt i l0).1 ++ [⟨kindName i,(fAt c1 l1).1⟩],(fAt c1 l1).2):=by
   rw [kAt,← hq,genKind,genFields_at,show (1 + nextV q 3).toNat = c1 from by omega,hl1]
  rw [hl1,hc1]
  have hc13:c1 ≤ 3:=by omega
  refine AWP.lp4 (fun (j F:Nat) (L:List AV) (r:List Int)=>⟨[(0,.ptr G 0 0),(3,.sl K 0 i),(5,.ptr Y 0 0),(10,iA c),(11,iA i),(21,iA c1),(22,iA j)],(F,.row 85 3 L) :: (Y,.row 83 2 [.agg [sA (kindName i),.sl F 0 j]]) :: (K,.row 83 2 M) :: (G,streamO r) :: Sf⟩) (fun j _ L r=>j ≤ c1 ∧ L = (fAt j l1).1.map fieldA ∧ L.length = j ∧ r = (fAt j l1).2) (fun j _ _ _=>c1 - j) 0 F [] l1 ⟨Nat.zero_le _,rfl,rfl,rfl⟩ ?_
  rintro j F L r ⟨hj,hL,hLl,hr⟩
  (repeat (first | refine WK ?_ | refine All.i fun X=>?_ | refine AllY.i fun Y=>?_))
  refine AWP.cond rfl (fun hd=>?_) (fun hd=>?_)
  ·have hj':j < c1:=by rw [decide_eq_true_eq] at hd;omega
   have h9:=nextV_range r (n:=9) (by decide)
   have h40:=nextV_range (nextL r 9) (n:=40) (by decide)
   have hfn:=fnames_at (i:=j) (by omega)
   (repeat (first | refine WK ?_ | refine All.i fun X=>?_ | refine AllY.i fun Y=>?_))
   refine AWP.rs fun X7=>?_
   (repeat refine WF ?_);refine AWP.region_run (by kernel_rfl) (by kernel_rfl) ?_;(repeat (first | (refine RGo.gN ?_;first | (refine RGo.g_callf ?_;first | refine RGo.o2 (h:=(next_po G _ _ (by decide))) (k:=?_))) | (refine RGo.gQ ?_;first | (refine RGo.g_callf ?_;first | refine RGo.o2 (h:=(next_po G _ _ (by decide))) (k:=?_))) | refine RK ?_ | refine RGo.nil (by kernel_rfl) ?_))
   (repeat (first | (refine AOps.gN ?_;first | (refine AOps.g_callf ?_;first | refine AOps.o2 (h:=(next_po G _ _ (by decide))) (k:=?_))) | refine WK ?_ | refine All.i fun X=>?_ | refine AllY.i fun Y=>?_))
   refine AWP.cond rfl (fun he=>?_) (fun he=>?_)
   ·have he:nextV (nextL (nextL r 9) 40) 8 = 7:=by simpa using he
    have hg:genField j r = (⟨fieldName j,32,-2147483648⟩,nextL (nextL (nextL r 9) 40) 8):=by rw [genField,if_pos he]
    (repeat (first | (refine AOps.gN ?_;first | (refine AOps.g_lit ?_;refine AOps.goL (fieldA ⟨fieldName j,32,-2147483648⟩) ?_)) | refine WK ?_ | refine All.i fun X=>?_ | refine AllY.i fun Y=>?_))
    refine lp_next4 (j + 1) Y _ _ ⟨hj',?_,?_,?_⟩
    ·rw [fAt,← hr,hg,hL,List.map_append];rfl
    ·rw [List.length_append,hLl];rfl
    ·rw [fAt,← hr,hg]
   ·have he:nextV (nextL (nextL r 9) 40) 8 ≠ 7:=by simpa using he
    have hg:genField j r = (⟨fieldName j,1 + nextV r 9,nextV (nextL r 9) 40 - 30⟩,nextL (nextL (nextL r 9) 40) 8):=by rw [genField,if_neg he]
    (repeat (first | (refine AOps.gN ?_;first | (refine AOps.g_lit ?_;refine AOps.goL (fieldA ⟨fieldName j,1 + nextV r 9,nextV (nextL r 9) 40 - 30⟩) ?_)) | refine WK ?_ | refine All.i fun X=>?_ | refine AllY.i fun Y=>?_))
    refine lp_next4 (j + 1) Y _ _ ⟨hj',?_,?_,?_⟩
    ·rw [fAt,← hr,hg,hL,List.map_append];rfl
    ·rw [List.length_append,hLl];rfl
    ·rw [fAt,← hr,hg]
  ·have hj':j = c1:=by rw [decide_eq_false_iff_not] at hd;omega
   subst hj'
   (repeat first | refine AOps.nil ?_ | refine WF ?_)
   refine AWP.iceIn (X:=F) (Y:=Y) .here (.next .here) rfl (.cons (.agg (.cons .same (.cons (.base (.sl (by omega))) .nil))) .nil) ?_
   have hF:AV.frzs ((L.drop 0).take j) = (fAt j l1).1.map fieldA:=by
    rw [List.drop_zero,List.take_of_length_le (by omega),hL]
    exact Frzs.h
   rw [hF]
   (repeat (first | (refine AOps.gN ?_;first | (refine AOps.g_lit ?_;refine AOps.goL (kindA false ⟨kindName i,(fAt j l1).1⟩) ?_)) | refine WK ?_ | refine All.i fun X=>?_ | refine AllY.i fun Y=>?_))
   refine lp_next4 (i + 1) Y _ _ ⟨h,?_,?_,?_⟩
   ·rw [hgk,hM,List.map_append];rfl
   ·rw [List.length_append,hMl];rfl
   ·rw [hgk,hr]
 ·have h:i = c:=by rw [decide_eq_false_iff_not] at hb;omega
  subst h
  (repeat (first | refine WK ?_ | refine All.i fun X=>?_ | refine AllY.i fun Y=>?_))
  (refine AWP.ret ?_;(repeat (first | refine inB_r ?_ | refine andThen_r ?_));refine retQ_r ?_)
  subst hM hq
  refine ⟨[.sl K 0 i],[.lst true 83 2 ((kAt i l0).1.map (kindA false))],_,[(G,streamO (kAt i l0).2)],.cons (.tmp rfl) rfl .nil,.cons (.cell (.sl (p:=0) .here (by rw [List.length_map,kAt_len]))) .nil,by exact Sub.f,rfl,rfl⟩
end Go.Proofs.YtnlekapghebhlaaGreat
