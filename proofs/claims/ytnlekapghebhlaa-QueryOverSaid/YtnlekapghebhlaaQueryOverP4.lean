/-
  Part 4 of the texts under the law QueryOver: the layer of abstract values, walks and plain laws. Conditions: those that each theorem names.
-/
import Derived.WalkKit
import Derived.Lib.Hide
import Derived.Deep.OwnRows
import Derived.Deep.Draws
import Derived.Test.YtnlekapghebhlaaChecked
import Derived.ProofKit
import Derived.OpenShut
import Derived.ShutString
import Derived.ChangeOld
import Derived.Below
import Derived.SizedLaws
import Derived.Deep.Slices
import Derived.Deep.Fields
import Derived.ChangeSame
import Derived.Test.YtnlekapghebhlaaProg
import Derived.Test.YtnlekapghebhlaaQueryOverP3
namespace Go.Proofs.Ytnlekapghebhlaa
set_option linter.unusedVariables false
set_option linter.unusedSimpArgs false
structure Field where
 name:List UInt8
 bits:Int
 low:Int
structure Kind where
 name:List UInt8
 fields:List Field
structure Ent where
 n:Int
 gen:Int
structure Comp where
 kind:Int
 vals:List Int
structure Item where
 ent:Ent
 comps:List Comp
structure Wd where
 kinds:List Kind
 gens:List Int
 items:List Item
structure Ref where
 kind:Int
 field:Int
structure Arg where
 has:Bool
 n:Int
 ref:Ref
structure Op where
 act:Int
 to:Ref
 a:Arg
 b:Arg
instance:DecidableEq Ent:=fun a b=>decidable_of_iff (a.n = b.n ∧ a.gen = b.gen) (by cases a;cases b;simp)
section
open Go.RowKit
abbrev Reg:=Nat → Prop
def Lt (w:World):Reg:=fun b=>b < w.heap.size
section
variable {w w' w'':World} {S T:Reg}
theorem bel {n m:Nat} {a b c:World} (h:Below n a b) (k:Below m b c) (hm:n ≤ m):Below n a c:=h.trans (k.mono hm)
def Row (w:World) (S:Reg) (sz:Nat) (v:Value) (n:Nat) (xs:List Value):Prop :=
 xs.length = n * sz ∧ ∃ A cap,v = .slice A n cap ∧ n ≤ cap ∧ (0 < n → ∃ b off,A = some ⟨b,off,none⟩ ∧ S b ∧ ∀ j u,xs[j]? = some u → w.cell? ⟨b,off + j,none⟩ = some u)
variable {sz n:Nat} {v:Value} {xs:List Value}
theorem Row.nil (w:World) (S:Reg) (sz:Nat):Row w S sz (.slice none 0 0) 0 []:=⟨by simp,none,0,rfl,Nat.le_refl _,fun h=>absurd h (by omega)⟩
end
def Cells {α:Type} (C:List Value → α → Prop) (sz:Nat):List Value → List α → Prop
 | xs,[]=>xs = []
 | xs,x :: l=>∃ c ys,xs = c ++ ys ∧ c.length = sz ∧ C c x ∧ Cells C sz ys l
section
variable {α:Type} {C C':List Value → α → Prop} {sz:Nat} {xs ys:List Value} {l m:List α}
theorem Cells.nil:Cells C sz [] []:=rfl
theorem Cells.length (h:Cells C sz xs l):xs.length = l.length * sz:=by
 induction l generalizing xs with
 | nil=>have:xs = []:=h;simp [this]
 | cons x l ih =>
  obtain ⟨c,ys,rfl,h1,_,h3⟩:=h
  simp [ih h3,h1,Nat.add_mul,Nat.add_comm]
end
def Sl {α:Type} (w:World) (S:Reg) (sz:Nat) (C:World → Reg → List Value → α → Prop) (v:Value) (l:List α):Prop :=
 ∃ xs,Row w S sz v l.length xs ∧ Cells (C w S) sz xs l
section
variable {α:Type} {w w':World} {S T:Reg} {sz:Nat} {C:World → Reg → List Value → α → Prop} {v:Value} {l:List α}
theorem Sl.nil (w:World) (S:Reg) (sz:Nat) (C:World → Reg → List Value → α → Prop):Sl w S sz C (.slice none 0 0) []:=⟨[],Row.nil w S sz,.nil⟩
end
abbrev strV (l:List UInt8):Value:=.string ⟨l.toArray⟩
def intC (_:World) (_:Reg) (c:List Value) (x:Int):Prop:=c = [.int .i64 x]
def fieldC (_:World) (_:Reg) (c:List Value) (f:Field):Prop:=c = [strV f.name,.int .i64 f.bits,.int .i64 f.low]
abbrev Ints (w:World) (S:Reg) (v:Value) (l:List Int):Prop:=Sl w S 1 intC v l
abbrev Fields (w:World) (S:Reg) (v:Value) (l:List Field):Prop:=Sl w S 3 fieldC v l
def kindC (w:World) (S:Reg) (c:List Value) (k:Kind):Prop:=∃ vf,c = [strV k.name,vf] ∧ Fields w S vf k.fields
abbrev Kinds (w:World) (S:Reg) (v:Value) (l:List Kind):Prop:=Sl w S 2 kindC v l
section
variable {w w':World} {S T:Reg} {v:Value}
variable {A:Option Addr} {n cap i:Nat}
end
section
variable {α:Type} {w w':World} {base:Nat} {e:TypeId} {S T:Reg} {sz:Nat} {C:World → Reg → List Value → α → Prop} {v:Value} {l:List α}
end
section
variable {w w':World} {b:Nat} {e:TypeId} {l:List Int}
end
section
variable {w w':World} {g:Nat} {t:TypeId} {cs:Array Value}
end
end
section
open Go.ChangeShapes Go.WideShapes Go.ChangeAt Go.RowKit Go.Deep
theorem flat_at {α:Type} {sz:Nat} {cs:α → List Value} {f:Nat → Option Value} (hcs:∀ x,(cs x).length = sz):∀ (l:List α) (off:Nat),(∀ i (hi:i < l.length) j u,(cs l[i])[j]? = some u → f (off + (i * sz + j)) = some u) →
  ∀ j u,(l.flatMap cs)[j]? = some u → f (off + j) = some u:=by
 intro l
 induction l with
 | nil=>intro off _ j u h;simp at h
 | cons x l ih =>
  intro off h j u hj
  rw [List.flatMap_cons] at hj
  rcases Nat.lt_or_ge j sz with hlt | hge
  ·rw [List.getElem?_append_left (by rw [hcs];exact hlt)] at hj
   have:=h 0 (by simp) j u hj
   simpa using this
  ·rw [List.getElem?_append_right (by rw [hcs];exact hge),hcs] at hj
   have:=ih (off + sz) (fun i hi j u hu=>by
    have:=h (i + 1) (by simp;omega) j u hu
    rwa [Nat.add_mul,Nat.one_mul,show off + (i * sz + sz + j) = off + sz + (i * sz + j) by omega] at this) (j - sz) u hj
   rwa [show off + sz + (j - sz) = off + j by omega] at this
theorem cells_flat {α:Type} {sz:Nat} {cs:α → List Value} {C:List Value → α → Prop} (hcs:∀ x,(cs x).length = sz) (hC:∀ x,C (cs x) x) (l:List α):Cells C sz (l.flatMap cs) l:=by
 induction l with
 | nil=>rfl
 | cons x l ih=>exact ⟨cs x,l.flatMap cs,by rw [List.flatMap_cons],hcs x,hC x,ih⟩
theorem sl_of_cells {α:Type} {w:World} {sz:Nat} {C:World → Reg → List Value → α → Prop} {a:Addr} {n cap:Nat} {l:List α} {cs:α → List Value} (hn:n ≤ cap) (hl:l.length = n) (hsz:0 < sz) (hcs:∀ x,(cs x).length = sz) (hC:∀ x,C w (Lt w) (cs x) x)
  (hcell:∀ i (hi:i < l.length) j u,(cs l[i])[j]? = some u → w.cell? (a.add (i * sz + j)) = some u):Sl w (Lt w) sz C (.slice (some a) n cap) l:=by
 subst hl
 refine ⟨l.flatMap cs,⟨?_,some a,cap,rfl,hn,fun h0=>?_⟩,cells_flat hcs hC l⟩
 ·have:=(cells_flat (C:=fun _ _=>True) hcs (fun _=>trivial) l).length
  exact this
 ·obtain ⟨b,off,spot⟩:=a
  have h1:∃ u,(cs l[0])[0]? = some u:=⟨_,List.getElem?_eq_getElem (by rw [hcs];exact hsz)⟩
  obtain ⟨u,hu⟩:=h1
  have h2:=hcell 0 h0 0 u hu
  have hspot:spot = none:=by simpa [Addr.add] using World.cell?_spot h2
  subst hspot
  refine ⟨b,off,rfl,?_,?_⟩
  ·rw [Go.WideShapes.add_plain] at h2
   unfold World.cell? at h2
   simp only at h2
   show b < w.heap.size
   rcases Nat.lt_or_ge b w.heap.size with h | h
   ·exact h
   ·rw [Array.getElem?_eq_none h] at h2
    cases h2
  ·refine flat_at (f:=fun k=>w.cell? ⟨b,k,none⟩) hcs l off fun i hi j u hu=>?_
   have:=hcell i hi j u hu
   rwa [Go.WideShapes.add_plain] at this
section
variable {H:Type} {enc:TypeId × Value → H} {w:World} {a:Option Addr} {len cap:Nat} {d:DataW H} {p:List MemPlace}
theorem ints_arg (h:DataW.Trod enc Try.prog w 0 (fun _=>true) true 22 (.slice a len cap) d p) :
  ∃ z:List Int,Ints w (Lt w) (.slice a len cap) z ∧ (z = [] ∨ ∃ elems spare,d = .slice elems spare ∧ z.length ≤ elems.length + spare.length):=by
 obtain ⟨fuel,hf⟩:=h
 rcases open_slice Try.underlying22 hf with ⟨hcs,_⟩ | ⟨x,l,c,m,n,D,Pl,hcs,hb,hl,hm,hmm,hx,hi⟩
 ·simp [Value.cells] at hcs
  obtain ⟨rfl,rfl,rfl⟩:=hcs
  exact ⟨[],Sl.nil _ _ _ _,.inl rfl⟩
 ·simp [Value.cells] at hcs
  obtain ⟨rfl,rfl,rfl⟩:=hcs
  have hlm:len ≤ m:=by rw [hmm];split <;> omega
  have hex:∀ i,∃ e:Int,i < len → ∀ j u,([Value.int .i64 e])[j]? = some u → w.cell? (x.add (i * 1 + j)) = some u:=by
   intro i
   by_cases hil:i < len
   ·obtain ⟨cs',hc,ht⟩:=hi i (by omega)
    rw [show Try.prog.cellsOf 3 = 1 from by kernel_rfl] at hc
    obtain ⟨_,hcl,hat⟩:=World.cells?_some hc
    obtain ⟨k,rfl,_⟩:=DataW.trod_int Try.underlying3 ht
    refine ⟨k,fun _ j u hu=>?_⟩
    have hj:j = 0:=by
     have:=(List.getElem?_eq_some_iff.1 hu).1
     simp at this
     omega
    subst hj
    have:=hat 0 (by omega)
    rw [Go.Deep.add_add] at this
    rw [this,hu]
   ·exact ⟨0,fun h=>absurd h hil⟩
  obtain ⟨f,hf'⟩:=Classical.axiomOfChoice hex
  refine ⟨(List.range len).map f,sl_of_cells (cs:=fun e=>[Value.int .i64 e]) hl (by simp) (by omega) (fun _=>rfl) (fun _=>rfl) (fun i hi' j u hu=>?_),.inr ⟨_,_,(Prod.mk.inj hx).1,by simp⟩⟩
  simp only [List.length_map,List.length_range] at hi'
  exact hf' i hi' j u (by simpa using hu)
end
end
section
def ixG (ks:List Int):Int → Option Value:=fun n=>if n ∈ ks then some (.int .i64 (ks.idxOf n:Nat)) else none
variable {α:Type}
abbrev keysC (l:List (Int × α)):List Int:=l.map (·.1)
def stPut (l:List (Int × α)) (n:Int) (v:α):List (Int × α):=if n ∈ keysC l then l.set ((keysC l).idxOf n) (n,v) else l ++ [(n,v)]
def stGet (l:List (Int × α)) (n:Int):Option α:=(l[(keysC l).idxOf n]?).map (·.2)
structure ColOK (l:List (Int × α)):Prop where
 nd:(keysC l).Nodup
 lt:∀ n ∈ keysC l,0 ≤ n ∧ n < 256
theorem nodup256 {ks:List Int} (h:ks.Nodup) (hl:∀ n ∈ ks,0 ≤ n ∧ n < 256):ks.length ≤ 256:=by
 have h1:(ks.map Int.toNat).Nodup:=by
  refine List.pairwise_map.2 (h.imp_of_mem fun ha hb hne e=>hne ?_)
  have:=hl _ ha
  have:=hl _ hb
  omega
 have h2:(ks.map Int.toNat) ⊆ List.range 256:=fun x hx=>by
  obtain ⟨n,hn,rfl⟩:=List.mem_map.1 hx
  have:=hl n hn
  rw [List.mem_range]
  omega
 have:=List.Nodup.length_le_of_subset h1 h2
 simpa using this
theorem ColOK.len {l:List (Int × α)} (h:ColOK l):l.length ≤ 256:=by
 have:=nodup256 h.nd h.lt
 simpa using this
theorem idx_lt {l:List (Int × α)} {n:Int} (h:n ∈ keysC l):(keysC l).idxOf n < l.length:=by
 have:=List.idxOf_lt_length_of_mem h
 simpa using this
theorem idx_at {l:List (Int × α)} {n:Int} (h:n ∈ keysC l):∃ v,l[(keysC l).idxOf n]? = some (n,v):=by
 have h1:=idx_lt h
 have h2:=List.getElem_idxOf (xs:=keysC l) (x:=n) (by simpa using h1)
 rw [List.getElem_map] at h2
 refine ⟨(l[(keysC l).idxOf n]).2,?_⟩
 rw [List.getElem?_eq_getElem h1]
 congr 1
 exact Prod.ext h2 rfl
theorem stGet_none {l:List (Int × α)} {n:Int} (h:n ∉ keysC l):stGet l n = none:=by
 unfold stGet
 rw [List.getElem?_eq_none]
 ·rfl
 ·rw [List.idxOf_eq_length h];simp
theorem stGet_mem {l:List (Int × α)} (h:ColOK l) {n:Int} {v:α}:stGet l n = some v ↔ (n,v) ∈ l:=by
 constructor
 ·intro e
  have hn:n ∈ keysC l:=Classical.byContradiction fun hn=>by rw [stGet_none hn] at e;cases e
  obtain ⟨u,hu⟩:=idx_at hn
  unfold stGet at e
  rw [hu] at e
  injection e with e
  simp only at e
  subst e
  exact List.mem_of_getElem? hu
 ·intro hm
  have hn:n ∈ keysC l:=List.mem_map.2 ⟨_,hm,rfl⟩
  obtain ⟨i,hi,e⟩:=List.getElem_of_mem hm
  have h1:(keysC l).idxOf n = i:=by
   have h2:(keysC l)[i]'(by simpa using hi) = n:=by rw [List.getElem_map,e]
   rw [← h2]
   exact h.nd.idxOf_getElem i _
  unfold stGet
  rw [h1,List.getElem?_eq_getElem hi,e]
  rfl
theorem stPut_new {l:List (Int × α)} {n:Int} {v:α} (h:n ∉ keysC l):stPut l n v = l ++ [(n,v)]:=if_neg h
theorem stPut_old {l:List (Int × α)} {n:Int} {v:α} (h:n ∈ keysC l):stPut l n v = l.set ((keysC l).idxOf n) (n,v):=if_pos h
theorem stPut_keys {l:List (Int × α)} {n:Int} {v:α} (h:n ∈ keysC l):keysC (stPut l n v) = keysC l:=by
 rw [stPut_old h,keysC,List.map_set]
 obtain ⟨u,hu⟩:=idx_at h
 have h1:=idx_lt h
 refine List.ext_getElem (by simp) fun i h2 h3=>?_
 rw [List.getElem_set]
 split
 ·rename_i e
  subst e
  have:=List.getElem_idxOf (xs:=keysC l) (x:=n) (by simpa using h1)
  exact this.symm
 ·rfl
theorem ColOK.put {l:List (Int × α)} (h:ColOK l) {n:Int} (hn:0 ≤ n ∧ n < 256) (v:α):ColOK (stPut l n v):=by
 by_cases hk:n ∈ keysC l
 ·refine ⟨by rw [stPut_keys hk];exact h.nd,fun m hm=>h.lt m (by rwa [stPut_keys hk] at hm)⟩
 ·rw [stPut_new hk]
  refine ⟨?_,fun m hm=>?_⟩
  ·rw [keysC,List.map_append]
   refine List.nodup_append.2 ⟨h.nd,by simp,fun a ha b hb e=>?_⟩
   simp only [List.map_cons,List.map_nil,List.mem_singleton] at hb
   subst hb e
   exact hk ha
  ·rw [keysC,List.map_append] at hm
   rcases List.mem_append.1 hm with hm | hm
   ·exact h.lt m hm
   ·simp only [List.map_cons,List.map_nil,List.mem_singleton] at hm
    subst hm
    exact hn
theorem stPut_mem {l:List (Int × α)} (h:ColOK l) {n:Int} {v:α} {m:Int} {u:α}:(m,u) ∈ stPut l n v ↔ (m = n ∧ u = v) ∨ (m ≠ n ∧ (m,u) ∈ l):=by
 by_cases hk:n ∈ keysC l
 ·obtain ⟨w,hw⟩:=idx_at hk
  have h1:=idx_lt hk
  rw [stPut_old hk]
  constructor
  ·intro hm
   obtain ⟨i,hi,e⟩:=List.getElem_of_mem hm
   rw [List.getElem_set] at e
   split at e
   ·injection e with e1 e2
    exact .inl ⟨e1.symm,e2.symm⟩
   ·rename_i hne
    refine .inr ⟨fun e2=>hne ?_,e ▸ List.getElem_mem _⟩
    have hi':i < l.length:=by simpa using hi
    have h2:(keysC l)[i]'(by simpa using hi') = n:=by rw [List.getElem_map,e,e2]
    rw [← h2]
    exact h.nd.idxOf_getElem i _
  ·rintro (⟨rfl,rfl⟩ | ⟨hne,hm⟩)
   ·exact List.mem_of_getElem? (i:=(keysC l).idxOf m) (by rw [List.getElem?_set_self h1])
   ·obtain ⟨i,hi,e⟩:=List.getElem_of_mem hm
    refine List.mem_of_getElem? (i:=i) ?_
    rw [List.getElem?_set_ne,List.getElem?_eq_getElem hi,e]
    intro e2
    have h3:l[i]? = some (m,u):=by rw [List.getElem?_eq_getElem hi,e]
    rw [← e2,hw] at h3
    injection h3 with h3
    injection h3 with h3 _
    exact hne h3.symm
 ·rw [stPut_new hk,List.mem_append,List.mem_singleton]
  constructor
  ·rintro (hm | e)
   ·exact .inr ⟨fun e=>hk (by subst e;exact List.mem_map.2 ⟨_,hm,rfl⟩),hm⟩
   ·injection e with e1 e2
    exact .inl ⟨e1,e2⟩
  ·rintro (⟨rfl,rfl⟩ | ⟨_,hm⟩)
   ·exact .inr rfl
   ·exact .inl hm
theorem stPut_get {l:List (Int × α)} (h:ColOK l) {n:Int} (hn:0 ≤ n ∧ n < 256) {v:α} {m:Int}:stGet (stPut l n v) m = if m = n then some v else stGet l m:=by
 split
 ·rename_i e
  subst e
  exact (stGet_mem (h.put hn v)).2 ((stPut_mem h).2 (.inl ⟨rfl,rfl⟩))
 ·rename_i hne
  cases hg:stGet l m with
  | some w=>exact (stGet_mem (h.put hn v)).2 ((stPut_mem h).2 (.inr ⟨hne,(stGet_mem h).1 hg⟩))
  | none =>
   refine stGet_none fun hm=>?_
   obtain ⟨⟨m',w⟩,hw,rfl⟩:=List.mem_map.1 hm
   rcases (stPut_mem h).1 hw with ⟨e,_⟩ | ⟨_,hw⟩
   ·exact hne e
   ·rw [(stGet_mem h).2 hw] at hg
    cases hg
theorem ixG_mem {ks:List Int} {n:Int} (h:n ∈ ks):ixG ks n = some (.int .i64 (ks.idxOf n:Nat)):=if_pos h
theorem ixG_no {ks:List Int} {n:Int} (h:n ∉ ks):ixG ks n = none:=if_neg h
theorem ixG_app {ks:List Int} {n:Int} (h:n ∉ ks):updG (ixG ks) n (.int .i64 (ks.length:Nat)) = ixG (ks ++ [n]):=by
 funext m
 unfold updG
 split
 ·rename_i e
  subst e
  rw [ixG_mem (by simp),List.idxOf_append,if_neg h]
  simp
 ·rename_i hne
  by_cases hm:m ∈ ks
  ·rw [ixG_mem hm,ixG_mem (by simp [hm]),List.idxOf_append,if_pos hm]
  ·rw [ixG_no hm,ixG_no (by simp [hm,hne])]
structure StK where
 X:Nat
 V:Nat
 R:Nat
 M:Nat
end
instance tAg3:TAg Try.prog 3 false:=⟨by kernel_rfl⟩
instance tSize3:TSize Try.prog 3 1:=⟨by kernel_rfl⟩
instance tZe3:TZe Try.prog 3 [.int .i64 0]:=⟨by kernel_rfl⟩
instance tBy3:TBy Try.prog 3 8:=⟨by kernel_rfl⟩
instance tAg9:TAg Try.prog 9 false:=⟨by kernel_rfl⟩
instance tSize9:TSize Try.prog 9 1:=⟨by kernel_rfl⟩
instance tZe9:TZe Try.prog 9 [.string ByteArray.empty]:=⟨by kernel_rfl⟩
instance tSg9:TSg Try.prog 9:=⟨by kernel_rfl⟩
instance tAg22:TAg Try.prog 22 false:=⟨by kernel_rfl⟩
instance tSize22:TSize Try.prog 22 1:=⟨by kernel_rfl⟩
instance tZe22:TZe Try.prog 22 [.slice none 0 0]:=⟨by kernel_rfl⟩
instance tEl22:TEl Try.prog 22 3:=⟨by kernel_rfl⟩
instance tRo22:TRo Try.prog 22 3 1 8:=⟨by kernel_rfl⟩
instance tAg29:TAg Try.prog 29 false:=⟨by kernel_rfl⟩
instance tSize29:TSize Try.prog 29 1:=⟨by kernel_rfl⟩
instance tAg36:TAg Try.prog 36 false:=⟨by kernel_rfl⟩
instance tSize36:TSize Try.prog 36 1:=⟨by kernel_rfl⟩
instance tEl36:TEl Try.prog 36 107:=⟨by kernel_rfl⟩
instance tRo36:TRo Try.prog 36 107 2 40:=⟨by kernel_rfl⟩
instance tAg37:TAg Try.prog 37 false:=⟨by kernel_rfl⟩
instance tSize37:TSize Try.prog 37 1:=⟨by kernel_rfl⟩
instance tEl37:TEl Try.prog 37 56:=⟨by kernel_rfl⟩
instance tRo37:TRo Try.prog 37 56 3 40:=⟨by kernel_rfl⟩
instance tAg39:TAg Try.prog 39 true:=⟨by kernel_rfl⟩
instance tSize39:TSize Try.prog 39 3:=⟨by kernel_rfl⟩
instance tZe39:TZe Try.prog 39 [.slice none 0 0,.slice none 0 0,.slice none 0 0]:=⟨by kernel_rfl⟩
instance tFl39_0:TFl Try.prog 39 0 0 36:=⟨by kernel_rfl⟩
instance tFl39_1:TFl Try.prog 39 1 1 22:=⟨by kernel_rfl⟩
instance tFl39_2:TFl Try.prog 39 2 2 37:=⟨by kernel_rfl⟩
instance tSt39:TSt Try.prog 39 [.slice none 0 0,.slice none 0 0,.slice none 0 0] [(0,1),(1,1),(2,1)]:=⟨by kernel_rfl⟩
instance tAg47:TAg Try.prog 47 false:=⟨by kernel_rfl⟩
instance tSize47:TSize Try.prog 47 1:=⟨by kernel_rfl⟩
instance tEl47:TEl Try.prog 47 22:=⟨by kernel_rfl⟩
instance tRo47:TRo Try.prog 47 22 1 24:=⟨by kernel_rfl⟩
instance tAg49:TAg Try.prog 49 false:=⟨by kernel_rfl⟩
instance tSize49:TSize Try.prog 49 1:=⟨by kernel_rfl⟩
instance tZe49:TZe Try.prog 49 [.slice none 0 0]:=⟨by kernel_rfl⟩
instance tEl49:TEl Try.prog 49 52:=⟨by kernel_rfl⟩
instance tRo49:TRo Try.prog 49 52 2 16:=⟨by kernel_rfl⟩
instance tAg52:TAg Try.prog 52 true:=⟨by kernel_rfl⟩
instance tSize52:TSize Try.prog 52 2:=⟨by kernel_rfl⟩
instance tZe52:TZe Try.prog 52 [.int .i64 0,.int .i64 0]:=⟨by kernel_rfl⟩
instance tFl52_0:TFl Try.prog 52 0 0 3:=⟨by kernel_rfl⟩
instance tFl52_1:TFl Try.prog 52 1 1 3:=⟨by kernel_rfl⟩
instance tSt52:TSt Try.prog 52 [.int .i64 0,.int .i64 0] [(0,1),(1,1)]:=⟨by kernel_rfl⟩
instance tAg54:TAg Try.prog 54 false:=⟨by kernel_rfl⟩
instance tSize54:TSize Try.prog 54 1:=⟨by kernel_rfl⟩
instance tEl54:TEl Try.prog 54 58:=⟨by kernel_rfl⟩
instance tRo54:TRo Try.prog 54 58 2 32:=⟨by kernel_rfl⟩
instance tAg56:TAg Try.prog 56 true:=⟨by kernel_rfl⟩
instance tSize56:TSize Try.prog 56 3:=⟨by kernel_rfl⟩
instance tZe56:TZe Try.prog 56 [.int .i64 0,.int .i64 0,.slice none 0 0]:=⟨by kernel_rfl⟩
instance tFl56_0:TFl Try.prog 56 0 0 52:=⟨by kernel_rfl⟩
instance tFl56_1:TFl Try.prog 56 1 2 54:=⟨by kernel_rfl⟩
instance tSt56:TSt Try.prog 56 [.int .i64 0,.int .i64 0,.slice none 0 0] [(0,2),(2,1)]:=⟨by kernel_rfl⟩
instance tAg58:TAg Try.prog 58 true:=⟨by kernel_rfl⟩
instance tSize58:TSize Try.prog 58 2:=⟨by kernel_rfl⟩
instance tZe58:TZe Try.prog 58 [.int .i64 0,.slice none 0 0]:=⟨by kernel_rfl⟩
instance tBy58:TBy Try.prog 58 32:=⟨by kernel_rfl⟩
instance tFl58_0:TFl Try.prog 58 0 0 3:=⟨by kernel_rfl⟩
instance tFl58_1:TFl Try.prog 58 1 1 22:=⟨by kernel_rfl⟩
instance tSt58:TSt Try.prog 58 [.int .i64 0,.slice none 0 0] [(0,1),(1,1)]:=⟨by kernel_rfl⟩
instance tFl76_0:TFl Try.prog 76 0 0 22:=⟨by kernel_rfl⟩
instance tSt76:TSt Try.prog 76 [.slice none 0 0] [(0,1)]:=⟨by kernel_rfl⟩
instance tAg82:TAg Try.prog 82 false:=⟨by kernel_rfl⟩
instance tSize82:TSize Try.prog 82 1:=⟨by kernel_rfl⟩
instance tAg83:TAg Try.prog 83 false:=⟨by kernel_rfl⟩
instance tSize83:TSize Try.prog 83 1:=⟨by kernel_rfl⟩
instance tEl83:TEl Try.prog 83 90:=⟨by kernel_rfl⟩
instance tRo83:TRo Try.prog 83 90 1 8:=⟨by kernel_rfl⟩
instance tFl85_2:TFl Try.prog 85 2 2 83:=⟨by kernel_rfl⟩
instance tFl85_3:TFl Try.prog 85 3 3 82:=⟨by kernel_rfl⟩
instance tSt85:TSt Try.prog 85 [.slice none 0 0,.slice none 0 0,.slice none 0 0,.map none] [(0,1),(1,1),(2,1),(3,1)]:=⟨by kernel_rfl⟩
instance tAg90:TAg Try.prog 90 false:=⟨by kernel_rfl⟩
instance tSize90:TSize Try.prog 90 1:=⟨by kernel_rfl⟩
instance tZe90:TZe Try.prog 90 [.pointer none]:=⟨by kernel_rfl⟩
instance tAg93:TAg Try.prog 93 false:=⟨by kernel_rfl⟩
instance tSize93:TSize Try.prog 93 1:=⟨by kernel_rfl⟩
instance tAg94:TAg Try.prog 94 false:=⟨by kernel_rfl⟩
instance tSize94:TSize Try.prog 94 1:=⟨by kernel_rfl⟩
instance tEl94:TEl Try.prog 94 126:=⟨by kernel_rfl⟩
instance tRo94:TRo Try.prog 94 126 1 8:=⟨by kernel_rfl⟩
instance tFl96_0:TFl Try.prog 96 0 0 22:=⟨by kernel_rfl⟩
instance tFl96_1:TFl Try.prog 96 1 1 93:=⟨by kernel_rfl⟩
instance tFl96_2:TFl Try.prog 96 2 2 94:=⟨by kernel_rfl⟩
instance tSt96:TSt Try.prog 96 [.slice none 0 0,.pointer none,.slice none 0 0] [(0,1),(1,1),(2,1)]:=⟨by kernel_rfl⟩
instance tAg104:TAg Try.prog 104 true:=⟨by kernel_rfl⟩
instance tSize104:TSize Try.prog 104 3:=⟨by kernel_rfl⟩
instance tZe104:TZe Try.prog 104 [.string ByteArray.empty,.int .i64 0,.int .i64 0]:=⟨by kernel_rfl⟩
instance tFl104_0:TFl Try.prog 104 0 0 9:=⟨by kernel_rfl⟩
instance tFl104_1:TFl Try.prog 104 1 1 3:=⟨by kernel_rfl⟩
instance tFl104_2:TFl Try.prog 104 2 2 3:=⟨by kernel_rfl⟩
instance tSt104:TSt Try.prog 104 [.string ByteArray.empty,.int .i64 0,.int .i64 0] [(0,1),(1,1),(2,1)]:=⟨by kernel_rfl⟩
instance tAg105:TAg Try.prog 105 false:=⟨by kernel_rfl⟩
instance tSize105:TSize Try.prog 105 1:=⟨by kernel_rfl⟩
instance tEl105:TEl Try.prog 105 104:=⟨by kernel_rfl⟩
instance tRo105:TRo Try.prog 105 104 3 32:=⟨by kernel_rfl⟩
instance tAg107:TAg Try.prog 107 true:=⟨by kernel_rfl⟩
instance tSize107:TSize Try.prog 107 2:=⟨by kernel_rfl⟩
instance tZe107:TZe Try.prog 107 [.string ByteArray.empty,.slice none 0 0]:=⟨by kernel_rfl⟩
instance tBy107:TBy Try.prog 107 40:=⟨by kernel_rfl⟩
instance tFl107_0:TFl Try.prog 107 0 0 9:=⟨by kernel_rfl⟩
instance tFl107_1:TFl Try.prog 107 1 1 105:=⟨by kernel_rfl⟩
instance tSt107:TSt Try.prog 107 [.string ByteArray.empty,.slice none 0 0] [(0,1),(1,1)]:=⟨by kernel_rfl⟩
instance tAg108:TAg Try.prog 108 false:=⟨by kernel_rfl⟩
instance tSize108:TSize Try.prog 108 1:=⟨by kernel_rfl⟩
instance tZe108:TZe Try.prog 108 [.slice none 0 0]:=⟨by kernel_rfl⟩
instance tEl108:TEl Try.prog 108 111:=⟨by kernel_rfl⟩
instance tRo108:TRo Try.prog 108 111 4 48:=⟨by kernel_rfl⟩
instance tAg111:TAg Try.prog 111 true:=⟨by kernel_rfl⟩
instance tSize111:TSize Try.prog 111 4:=⟨by kernel_rfl⟩
instance tZe111:TZe Try.prog 111 [.int .i64 0,.int .i64 0,.int .i64 0,.slice none 0 0]:=⟨by kernel_rfl⟩
instance tFl111_0:TFl Try.prog 111 0 0 3:=⟨by kernel_rfl⟩
instance tFl111_1:TFl Try.prog 111 1 1 56:=⟨by kernel_rfl⟩
instance tSt111:TSt Try.prog 111 [.int .i64 0,.int .i64 0,.int .i64 0,.slice none 0 0] [(0,1),(1,3)]:=⟨by kernel_rfl⟩
instance tAg117:TAg Try.prog 117 false:=⟨by kernel_rfl⟩
instance tSize117:TSize Try.prog 117 1:=⟨by kernel_rfl⟩
instance tZe117:TZe Try.prog 117 [.nilFunc]:=⟨by kernel_rfl⟩
instance tEl118:TEl Try.prog 118 9:=⟨by kernel_rfl⟩
instance tAg126:TAg Try.prog 126 false:=⟨by kernel_rfl⟩
instance tSize126:TSize Try.prog 126 1:=⟨by kernel_rfl⟩
instance tZe126:TZe Try.prog 126 [.pointer none]:=⟨by kernel_rfl⟩
instance tFl138_0:TFl Try.prog 138 0 0 49:=⟨by kernel_rfl⟩
instance tFl138_1:TFl Try.prog 138 1 1 22:=⟨by kernel_rfl⟩
instance tFl138_2:TFl Try.prog 138 2 2 29:=⟨by kernel_rfl⟩
instance tSt138:TSt Try.prog 138 [.slice none 0 0,.slice none 0 0,.map none] [(0,1),(1,1),(2,1)]:=⟨by kernel_rfl⟩
instance tFl158_0:TFl Try.prog 158 0 0 47:=⟨by kernel_rfl⟩
instance tFl158_1:TFl Try.prog 158 1 1 22:=⟨by kernel_rfl⟩
instance tFl158_2:TFl Try.prog 158 2 2 29:=⟨by kernel_rfl⟩
instance tSt158:TSt Try.prog 158 [.slice none 0 0,.slice none 0 0,.map none] [(0,1),(1,1),(2,1)]:=⟨by kernel_rfl⟩
instance tAg192:TAg Try.prog 192 false:=⟨by kernel_rfl⟩
instance tSize192:TSize Try.prog 192 1:=⟨by kernel_rfl⟩
instance tZe192:TZe Try.prog 192 [.int .u64 0]:=⟨by kernel_rfl⟩
abbrev iA (n:Int):AV:=.prim (.int .i64 n)
abbrev bA (b:Bool):AV:=.prim (.bool b)
abbrev sA (l:List UInt8):AV:=.prim (strA l)
def fieldA (f:Field):AV:=.agg [sA f.name,iA f.bits,iA f.low]
abbrev fieldsA (o:Bool) (l:List Field):AV:=.lst o 104 3 (l.map fieldA)
def kindA (o:Bool) (k:Kind):AV:=.agg [sA k.name,fieldsA o k.fields]
abbrev kindsA (o o':Bool) (l:List Kind):AV:=.lst o 107 2 (l.map (kindA o'))
abbrev intsA (o:Bool) (l:List Int):AV:=.lst o 3 1 (l.map iA)
instance {f:Field}:Frz (fieldA f) (fieldA f):=⟨rfl⟩
instance {o:Bool} {k:Kind}:Frz (kindA o k) (kindA false k):=⟨by unfold kindA;exact Frz.h⟩
def compA (o:Bool) (c:Comp):AV:=.agg [iA c.kind,intsA o c.vals]
abbrev compsA (o o':Bool) (l:List Comp):AV:=.lst o 58 2 (l.map (compA o'))
def itemA (o:Bool) (x:Item):AV:=.agg [iA x.ent.n,iA x.ent.gen,compsA o o x.comps]
abbrev itemsA (o o':Bool) (l:List Item):AV:=.lst o 56 3 (l.map (itemA o'))
def wdA (o:Bool) (w:Wd):AV:=.agg [kindsA o o w.kinds,intsA o w.gens,itemsA o o w.items]
def entA (e:Ent):AV:=.agg [iA e.n,iA e.gen]
instance {e:Ent}:Frz (entA e) (entA e):=⟨rfl⟩
instance {o:Bool} {k:Comp}:Frz (compA o k) (compA false k):=⟨by unfold compA;exact Frz.h⟩
instance {o:Bool} {k:Item}:Frz (itemA o k) (itemA false k):=⟨by unfold itemA;exact Frz.h⟩
instance {o:Bool} {k:Wd}:Frz (wdA o k) (wdA false k):=⟨by unfold wdA;exact Frz.h⟩
theorem frzs_same {α:Type} (f:α → AV) (h:∀ a,(f a).frz = f a) (l:List α):AV.frzs (l.map f) = l.map f:=by
 rw [frzs_map,List.map_map]
 exact List.map_congr_left fun a _=>h a
theorem intsA_frz (o:Bool) (l:List Int):(intsA o l).frz = intsA false l:=by
 show AV.lst false _ _ (AV.frzs (l.map iA)) = _
 rw [frzs_same _ fun _=>rfl]
instance mapII:TMap Try.prog 29 3 3 (.int .i64 0):=⟨by kernel_rfl,by kernel_rfl,fun w=>by kernel_rfl,PlainV.int (by kernel_rfl) rfl⟩
abbrev stE (k:StK) (l:List (Int × Ent)):List Slot:=[(k.X,.row 138 3 [.agg [.sl k.V 0 l.length,.sl k.R 0 l.length,.mp k.M]]),(k.V,.row 52 2 (l.map fun e=>entA e.2)),(k.R,.row 3 1 (l.map fun e=>iA e.1)),(k.M,.ob (MapF Try.prog 3 3 (ixG (keysC l)) l.length))]
theorem stE_mk {X V R M n m c:Nat} {l:List (Int × Ent)} {vs rs:List AV} {g:Int → Option Value} (h1:n = l.length) (h2:m = l.length) (h3:vs = l.map fun e=>entA e.2) (h4:rs = l.map fun e=>iA e.1) (h5:g = ixG (keysC l)) (h6:c = l.length) :
  [(X,AO.row 138 3 [.agg [.sl V 0 n,.sl R 0 m,.mp M]]),(V,.row 52 2 vs),(R,.row 3 1 rs),(M,.ob (MapF Try.prog 3 3 g c))] = stE ⟨X,V,R,M⟩ l:=by
 subst h1 h2 h3 h4 h5 h6;rfl
theorem newE_sp:Spec Try.prog 64 [] [] fun r S'=>∃ k:StK,r = .ptr k.X 0 0 ∧ S' = stE k []:=by
 refine Spec.of (nt:=4) (res:=[.tmp 0]) Try.func64 rfl (by kernel_rfl) rfl rfl rfl fun Sf=>?_
 (repeat refine WF ?_);refine AWP.region ?_;(repeat (first | refine WO ?_ | refine All.i fun X=>?_ | refine AllY.i fun Y=>?_));refine AOps.nil ?_;(repeat refine WN ?_)
 (repeat first | refine AOps.nil ?_ | refine WF ?_)
 (repeat refine WF ?_);refine AWP.region ?_;(repeat (first | (refine AOps.gN ?_;first | (refine AOps.g_makeMap ?_;refine AOps.goMap fun M=>?_)) | refine WO ?_ | refine All.i fun X=>?_ | refine AllY.i fun Y=>?_));refine AOps.nil ?_;(repeat refine WN ?_)
 refine AWP.adoptIn (Y:=X) 52 2 .here (fun V=>.cons (.agg (.cons (.base .nil) (.cons .same (.cons .same .nil)))) .nil) fun V=>?_
 refine AWP.adoptIn (Y:=X) 3 1 (.next .here) (fun V=>.cons (.agg (.cons .same (.cons (.base .nil) (.cons .same .nil)))) .nil) fun R=>?_
 refine AWP.front M ?_;refine AWP.front R ?_;refine AWP.front V ?_;refine AWP.front X ?_
 (refine AWP.ret ?_;(repeat (first | refine inB_r ?_ | refine andThen_r ?_));refine retQ_r ?_)
 exact Ends.sp [.ptr X 0 0] (stE ⟨X,V,R,M⟩ []) ⟨⟨X,V,R,M⟩,rfl,rfl⟩
theorem cputE_sp (k:StK) (l:List (Int × Ent)) (hl:ColOK l) (n:Int) (v:Ent) (hn:0 ≤ n ∧ n < 256):Spec Try.prog 67 [.ptr k.X 0 0,iA n,entA v] (stE k l) fun r S'=>∃ q:Nat × Nat,r = iA 0 ∧ S' = stE ⟨k.X,q.1,q.2,k.M⟩ (stPut l n v):=by
 have hlen:=hl.len
 have hn1:decide (n < 0) = false:=decide_eq_false (by omega)
 have hn2:decide (n ≥ 256) = false:=decide_eq_false (by omega)
 have hI : -9223372036854775808 ≤ n ∧ n ≤ 9223372036854775807:=by omega
 by_cases hk:n ∈ keysC l
 ·obtain ⟨u,hu⟩:=idx_at hk
  have hi:=idx_lt hk
  rw [stPut_old hk]
  have hix:=ixG_mem hk
  have hke:=stPut_keys (v:=v) hk
  rw [stPut_old hk] at hke
  obtain ⟨i,hi2⟩:∃ i,(keysC l).idxOf n = i:=⟨_,rfl⟩
  rw [hi2] at hi hu hix hke ⊢
  have h1:(ixG (keysC l) n).getD (.int .i64 0) = .int .i64 (i:Nat):=by rw [hix];rfl
  have h2:(ixG (keysC l) n).isSome = true:=by rw [hix];rfl
  have hat:(l.map fun e=>entA e.2)[i]? = some (entA u):=by rw [List.getElem?_map,hu];rfl
  have hset:(l.map fun e=>entA e.2).set i (entA v) = (l.set i (n,v)).map fun e=>entA e.2:=by rw [List.map_set]
  have hrow:(l.map fun e=>iA e.1) = (l.set i (n,v)).map fun e=>iA e.1:=by
   have:=congrArg (List.map iA) hke
   rw [keysC,keysC,List.map_map,List.map_map] at this
   exact this.symm
  refine Spec.of (nt:=62) (res:=[.tmp 6]) Try.func67 rfl (by kernel_rfl) rfl rfl rfl fun Sf=>?_
  (repeat refine WF ?_);refine AWP.region ?_;(repeat (first | refine WO ?_ | refine All.i fun B0=>?_ | refine AllY.i fun Y=>?_));refine AOps.nil ?_;(repeat refine WN ?_)
  (repeat first | refine AOps.nil ?_ | refine WF ?_)
  (repeat refine WF ?_);refine AWP.region ?_;(repeat (first | refine WO ?_ | refine All.i fun X=>?_ | refine AllY.i fun Y=>?_));refine AOps.nil ?_;(repeat refine WN ?_)
  (repeat first | refine AOps.nil ?_ | refine WF ?_)
  refine AWP.cond_f rfl hn2 ?_
  (repeat first | refine AOps.nil ?_ | refine WF ?_)
  (repeat refine WF ?_);refine AWP.region ?_;(repeat (first | (refine AOps.gN ?_;first | refine AOps.go (h:=W.look2 _ _ h1 h2 hI rfl rfl (by exact At.f)) (k:=?_)) | refine WO ?_ | refine All.i fun X=>?_ | refine AllY.i fun Y=>?_));refine AOps.nil ?_;(repeat refine WN ?_)
  (repeat first | refine AOps.nil ?_ | refine WF ?_)
  (repeat refine WF ?_);refine AWP.region ?_;(repeat (first | refine WO ?_ | refine All.i fun X=>?_ | refine AllY.i fun Y=>?_));refine AOps.nil ?_;(repeat refine WN ?_)
  (repeat first | refine AOps.nil ?_ | refine WF ?_)
  refine AWP.cond_t rfl rfl ?_
  (repeat first | refine AOps.nil ?_ | refine WF ?_)
  (repeat refine WF ?_);refine AWP.region_run (by kernel_rfl) (by kernel_rfl) ?_;(repeat (first | (refine RGo.gN ?_;first | refine RGo.go (h:=W.idx rfl rfl (by exact At.f) rfl (by omega) (Nat.zero_add _)) (k:=?_)) | (refine RGo.gQ ?_;first | refine RGo.go (h:=W.idx rfl rfl (by exact At.f) rfl (by omega) (Nat.zero_add _)) (k:=?_)) | refine RK ?_ | refine RGo.nil (by kernel_rfl) ?_))
  (repeat first | refine AOps.nil ?_ | refine WF ?_)
  (repeat refine WF ?_);refine AWP.region ?_;(repeat (first | refine WO ?_ | refine All.i fun X=>?_ | refine AllY.i fun Y=>?_));refine AOps.nil ?_;(repeat refine WN ?_)
  (refine AWP.ret ?_;(repeat (first | refine inB_r ?_ | refine andThen_r ?_));refine retQ_r ?_)
  exact Ends.sp [iA 0] _ ⟨(k.V,k.R),rfl,stE_mk (n:=l.length) (m:=l.length) (c:=l.length) (by simp) (by simp) hset hrow (by rw [hke]) (by simp)⟩
 ·rw [stPut_new hk]
  have hix:=ixG_no hk
  have h1:(ixG (keysC l) n).getD (.int .i64 0) = .int .i64 0:=by rw [hix];rfl
  have h2:(ixG (keysC l) n).isSome = false:=by rw [hix];rfl
  have hkl:(keysC l).length = l.length:=List.length_map _
  have hkf:updG (ixG (keysC l)) n (.int .i64 (l.length:Nat)) = ixG (keysC (l ++ [(n,v)])):=by
   rw [← hkl,ixG_app hk,keysC,keysC,List.map_append];rfl
  have hsz:(if (ixG (keysC l) n).isSome then l.length else l.length + 1) = l.length + 1:=by rw [h2];rfl
  have hmx:l.length < maxLen:=by unfold maxLen;omega
  refine Spec.of (nt:=62) (res:=[.tmp 6]) Try.func67 rfl (by kernel_rfl) rfl rfl rfl fun Sf=>?_
  (repeat refine WF ?_);refine AWP.region ?_;(repeat (first | refine WO ?_ | refine All.i fun B0=>?_ | refine AllY.i fun Y=>?_));refine AOps.nil ?_;(repeat refine WN ?_)
  (repeat first | refine AOps.nil ?_ | refine WF ?_)
  (repeat refine WF ?_);refine AWP.region ?_;(repeat (first | refine WO ?_ | refine All.i fun X=>?_ | refine AllY.i fun Y=>?_));refine AOps.nil ?_;(repeat refine WN ?_)
  (repeat first | refine AOps.nil ?_ | refine WF ?_)
  refine AWP.cond_f rfl hn2 ?_
  (repeat first | refine AOps.nil ?_ | refine WF ?_)
  (repeat refine WF ?_);refine AWP.region ?_;(repeat (first | (refine AOps.gN ?_;first | refine AOps.go (h:=W.look2 _ _ h1 h2 hI rfl rfl (by exact At.f)) (k:=?_)) | refine WO ?_ | refine All.i fun X=>?_ | refine AllY.i fun Y=>?_));refine AOps.nil ?_;(repeat refine WN ?_)
  (repeat first | refine AOps.nil ?_ | refine WF ?_)
  (repeat refine WF ?_);refine AWP.region ?_;(repeat (first | refine WO ?_ | refine All.i fun X=>?_ | refine AllY.i fun Y=>?_));refine AOps.nil ?_;(repeat refine WN ?_)
  (repeat first | refine AOps.nil ?_ | refine WF ?_)
  refine AWP.cond_f rfl rfl ?_
  (repeat first | refine AOps.nil ?_ | refine WF ?_)
  (repeat refine WF ?_);refine AWP.region_run (by kernel_rfl) (by kernel_rfl) ?_;(repeat (first | (refine RGo.gN ?_;first | refine RGo.goS (h:=W.mapUpd (PlainV.int (by kernel_rfl) (i64_wf (by omega))) hI hmx rfl rfl rfl (by exact At.f)) (k:=?_)) | (refine RGo.gQ ?_;first | refine RGo.goS (h:=W.mapUpd (PlainV.int (by kernel_rfl) (i64_wf (by omega))) hI hmx rfl rfl rfl (by exact At.f)) (k:=?_)) | refine RK ?_ | refine RGo.nil (by kernel_rfl) ?_))
  rw [hkf,hsz]
  (repeat first | refine AOps.nil ?_ | refine WF ?_)
  refine AWP.rs fun A=>AWP.rs fun B=>?_
  (repeat refine WF ?_);refine AWP.region_run (by kernel_rfl) (by kernel_rfl) ?_;(repeat (first | (refine RGo.gN ?_;first | (refine RGo.g_lit ?_;refine RGo.goL (iA n) ?_) | (refine RGo.g_lit ?_;refine RGo.goL (entA v) ?_)) | (refine RGo.gQ ?_;first | (refine RGo.g_lit ?_;refine RGo.goL (iA n) ?_) | (refine RGo.g_lit ?_;refine RGo.goL (entA v) ?_)) | refine RK ?_ | refine RGo.nil (by kernel_rfl) ?_))
  (repeat first | refine AOps.nil ?_ | refine WF ?_)
  (repeat refine WF ?_);refine AWP.region ?_;(repeat (first | refine WO ?_ | refine All.i fun X=>?_ | refine AllY.i fun Y=>?_));refine AOps.nil ?_;(repeat refine WN ?_)
  refine AWP.front k.M ?_;refine AWP.front B ?_;refine AWP.front A ?_;refine AWP.front k.X ?_
  (refine AWP.ret ?_;(repeat (first | refine inB_r ?_ | refine andThen_r ?_));refine retQ_r ?_)
  exact Ends.sp [iA 0] _ ⟨(A,B),rfl,stE_mk (n:=l.length + 1) (m:=l.length + 1) (c:=l.length + 1) (by simp) (by simp) (by rw [List.map_append]) (by rw [List.map_append]) rfl (by simp)⟩
abbrev stS (k:StK) (l:List (Int × List Int)):List Slot:=[(k.X,.row 158 3 [.agg [.sl k.V 0 l.length,.sl k.R 0 l.length,.mp k.M]]),(k.V,.row 22 1 (l.map fun e=>intsA false e.2)),(k.R,.row 3 1 (l.map fun e=>iA e.1)),(k.M,.ob (MapF Try.prog 3 3 (ixG (keysC l)) l.length))]
theorem stS_mk {X V R M n m c:Nat} {l:List (Int × List Int)} {vs rs:List AV} {g:Int → Option Value} (h1:n = l.length) (h2:m = l.length) (h3:vs = l.map fun e=>intsA false e.2) (h4:rs = l.map fun e=>iA e.1) (h5:g = ixG (keysC l)) (h6:c = l.length) :
  [(X,AO.row 158 3 [.agg [.sl V 0 n,.sl R 0 m,.mp M]]),(V,.row 22 1 vs),(R,.row 3 1 rs),(M,.ob (MapF Try.prog 3 3 g c))] = stS ⟨X,V,R,M⟩ l:=by
 subst h1 h2 h3 h4 h5 h6;rfl
theorem newS_sp:Spec Try.prog 65 [] [] fun r S'=>∃ k:StK,r = .ptr k.X 0 0 ∧ S' = stS k []:=by
 refine Spec.of (nt:=4) (res:=[.tmp 0]) Try.func65 rfl (by kernel_rfl) rfl rfl rfl fun Sf=>?_
 (repeat refine WF ?_);refine AWP.region ?_;(repeat (first | refine WO ?_ | refine All.i fun X=>?_ | refine AllY.i fun Y=>?_));refine AOps.nil ?_;(repeat refine WN ?_)
 (repeat first | refine AOps.nil ?_ | refine WF ?_)
 (repeat refine WF ?_);refine AWP.region ?_;(repeat (first | (refine AOps.gN ?_;first | (refine AOps.g_makeMap ?_;refine AOps.goMap fun M=>?_)) | refine WO ?_ | refine All.i fun X=>?_ | refine AllY.i fun Y=>?_));refine AOps.nil ?_;(repeat refine WN ?_)
 refine AWP.adoptIn (Y:=X) 22 1 .here (fun V=>.cons (.agg (.cons (.base .nil) (.cons .same (.cons .same .nil)))) .nil) fun V=>?_
 refine AWP.adoptIn (Y:=X) 3 1 (.next .here) (fun V=>.cons (.agg (.cons .same (.cons (.base .nil) (.cons .same .nil)))) .nil) fun R=>?_
 refine AWP.front M ?_;refine AWP.front R ?_;refine AWP.front V ?_;refine AWP.front X ?_
 (refine AWP.ret ?_;(repeat (first | refine inB_r ?_ | refine andThen_r ?_));refine retQ_r ?_)
 exact Ends.sp [.ptr X 0 0] (stS ⟨X,V,R,M⟩ []) ⟨⟨X,V,R,M⟩,rfl,rfl⟩
theorem cputS_sp (k:StK) (l:List (Int × List Int)) (hl:ColOK l) (n:Int) (v:List Int) (hn:0 ≤ n ∧ n < 256):Spec Try.prog 68 [.ptr k.X 0 0,iA n,intsA false v] (stS k l) fun r S'=>∃ q:Nat × Nat,r = iA 0 ∧ S' = stS ⟨k.X,q.1,q.2,k.M⟩ (stPut l n v):=by
 have hlen:=hl.len
 have hn1:decide (n < 0) = false:=decide_eq_false (by omega)
 have hn2:decide (n ≥ 256) = false:=decide_eq_false (by omega)
 have hI : -9223372036854775808 ≤ n ∧ n ≤ 9223372036854775807:=by omega
 by_cases hk:n ∈ keysC l
 ·obtain ⟨u,hu⟩:=idx_at hk
  have hi:=idx_lt hk
  rw [stPut_old hk]
  have hix:=ixG_mem hk
  have hke:=stPut_keys (v:=v) hk
  rw [stPut_old hk] at hke
  obtain ⟨i,hi2⟩:∃ i,(keysC l).idxOf n = i:=⟨_,rfl⟩
  rw [hi2] at hi hu hix hke ⊢
  have h1:(ixG (keysC l) n).getD (.int .i64 0) = .int .i64 (i:Nat):=by rw [hix];rfl
  have h2:(ixG (keysC l) n).isSome = true:=by rw [hix];rfl
  have hat:(l.map fun e=>intsA false e.2)[i]? = some (intsA false u):=by rw [List.getElem?_map,hu];rfl
  have hset:(l.map fun e=>intsA false e.2).set i (intsA false v) = (l.set i (n,v)).map fun e=>intsA false e.2:=by rw [List.map_set]
  have hrow:(l.map fun e=>iA e.1) = (l.set i (n,v)).map fun e=>iA e.1:=by
   have:=congrArg (List.map iA) hke
   rw [keysC,keysC,List.map_map,List.map_map] at this
   exact this.symm
  refine Spec.of (nt:=62) (res:=[.tmp 6]) Try.func68 rfl (by kernel_rfl) rfl rfl rfl fun Sf=>?_
  (repeat refine WF ?_);refine AWP.region ?_;(repeat (first | refine WO ?_ | refine All.i fun X=>?_ | refine AllY.i fun Y=>?_));refine AOps.nil ?_;(repeat refine WN ?_)
  (repeat first | refine AOps.nil ?_ | refine WF ?_)
  (repeat refine WF ?_);refine AWP.region ?_;(repeat (first | refine WO ?_ | refine All.i fun X=>?_ | refine AllY.i fun Y=>?_));refine AOps.nil ?_;(repeat refine WN ?_)
  (repeat first | refine AOps.nil ?_ | refine WF ?_)
  refine AWP.cond_f rfl hn2 ?_
  (repeat first | refine AOps.nil ?_ | refine WF ?_)
  (repeat refine WF ?_);refine AWP.region ?_;(repeat (first | (refine AOps.gN ?_;first | refine AOps.go (h:=W.look2 _ _ h1 h2 hI rfl rfl (by exact At.f)) (k:=?_)) | refine WO ?_ | refine All.i fun X=>?_ | refine AllY.i fun Y=>?_));refine AOps.nil ?_;(repeat refine WN ?_)
  (repeat first | refine AOps.nil ?_ | refine WF ?_)
  (repeat refine WF ?_);refine AWP.region ?_;(repeat (first | refine WO ?_ | refine All.i fun X=>?_ | refine AllY.i fun Y=>?_));refine AOps.nil ?_;(repeat refine WN ?_)
  (repeat first | refine AOps.nil ?_ | refine WF ?_)
  refine AWP.cond_t rfl rfl ?_
  (repeat first | refine AOps.nil ?_ | refine WF ?_)
  (repeat refine WF ?_);refine AWP.region ?_;(repeat (first | (refine AOps.gN ?_;first | refine AOps.go (h:=W.idx rfl rfl (by exact At.f) rfl (by omega) (Nat.zero_add _)) (k:=?_)) | refine WO ?_ | refine All.i fun X=>?_ | refine AllY.i fun Y=>?_));refine AOps.nil ?_;(repeat refine WN ?_)
  (repeat first | refine AOps.nil ?_ | refine WF ?_)
  (repeat refine WF ?_);refine AWP.region ?_;(repeat (first | refine WO ?_ | refine All.i fun X=>?_ | refine AllY.i fun Y=>?_));refine AOps.nil ?_;(repeat refine WN ?_)
  (refine AWP.ret ?_;(repeat (first | refine inB_r ?_ | refine andThen_r ?_));refine retQ_r ?_)
  exact Ends.sp [iA 0] _ ⟨(k.V,k.R),rfl,stS_mk (n:=l.length) (m:=l.length) (c:=l.length) (by simp) (by simp) hset hrow (by rw [hke]) (by simp)⟩
 ·rw [stPut_new hk]
  have hix:=ixG_no hk
  have h1:(ixG (keysC l) n).getD (.int .i64 0) = .int .i64 0:=by rw [hix];rfl
  have h2:(ixG (keysC l) n).isSome = false:=by rw [hix];rfl
  have hkl:(keysC l).length = l.length:=List.length_map _
  have hkf:updG (ixG (keysC l)) n (.int .i64 (l.length:Nat)) = ixG (keysC (l ++ [(n,v)])):=by
   rw [← hkl,ixG_app hk,keysC,keysC,List.map_append];rfl
  have hsz:(if (ixG (keysC l) n).isSome then l.length else l.length + 1) = l.length + 1:=by rw [h2];rfl
  have hmx:l.length < maxLen:=by unfold maxLen;omega
  refine Spec.of (nt:=62) (res:=[.tmp 6]) Try.func68 rfl (by kernel_rfl) rfl rfl rfl fun Sf=>?_
  (repeat refine WF ?_);refine AWP.region ?_;(repeat (first | refine WO ?_ | refine All.i fun X=>?_ | refine AllY.i fun Y=>?_));refine AOps.nil ?_;(repeat refine WN ?_)
  (repeat first | refine AOps.nil ?_ | refine WF ?_)
  (repeat refine WF ?_);refine AWP.region ?_;(repeat (first | refine WO ?_ | refine All.i fun X=>?_ | refine AllY.i fun Y=>?_));refine AOps.nil ?_;(repeat refine WN ?_)
  (repeat first | refine AOps.nil ?_ | refine WF ?_)
  refine AWP.cond_f rfl hn2 ?_
  (repeat first | refine AOps.nil ?_ | refine WF ?_)
  (repeat refine WF ?_);refine AWP.region ?_;(repeat (first | (refine AOps.gN ?_;first | refine AOps.go (h:=W.look2 _ _ h1 h2 hI rfl rfl (by exact At.f)) (k:=?_)) | refine WO ?_ | refine All.i fun X=>?_ | refine AllY.i fun Y=>?_));refine AOps.nil ?_;(repeat refine WN ?_)
  (repeat first | refine AOps.nil ?_ | refine WF ?_)
  (repeat refine WF ?_);refine AWP.region ?_;(repeat (first | refine WO ?_ | refine All.i fun X=>?_ | refine AllY.i fun Y=>?_));refine AOps.nil ?_;(repeat refine WN ?_)
  (repeat first | refine AOps.nil ?_ | refine WF ?_)
  refine AWP.cond_f rfl rfl ?_
  (repeat first | refine AOps.nil ?_ | refine WF ?_)
  (repeat refine WF ?_);refine AWP.region_run (by kernel_rfl) (by kernel_rfl) ?_;(repeat (first | (refine RGo.gN ?_;first | refine RGo.goS (h:=W.mapUpd (PlainV.int (by kernel_rfl) (i64_wf (by omega))) hI hmx rfl rfl rfl (by exact At.f)) (k:=?_)) | (refine RGo.gQ ?_;first | refine RGo.goS (h:=W.mapUpd (PlainV.int (by kernel_rfl) (i64_wf (by omega))) hI hmx rfl rfl rfl (by exact At.f)) (k:=?_)) | refine RK ?_ | refine RGo.nil (by kernel_rfl) ?_))
  rw [hkf,hsz]
  (repeat first | refine AOps.nil ?_ | refine WF ?_)
  refine AWP.rs fun A=>AWP.rs fun B=>?_
  (repeat refine WF ?_);refine AWP.region_run (by kernel_rfl) (by kernel_rfl) ?_;(repeat (first | (refine RGo.gN ?_;first | (refine RGo.g_lit ?_;refine RGo.goL (iA n) ?_) | (refine RGo.g_lit ?_;refine RGo.goL (intsA false v) ?_)) | (refine RGo.gQ ?_;first | (refine RGo.g_lit ?_;refine RGo.goL (iA n) ?_) | (refine RGo.g_lit ?_;refine RGo.goL (intsA false v) ?_)) | refine RK ?_ | refine RGo.nil (by kernel_rfl) ?_))
  (repeat first | refine AOps.nil ?_ | refine WF ?_)
  (repeat refine WF ?_);refine AWP.region ?_;(repeat (first | refine WO ?_ | refine All.i fun X=>?_ | refine AllY.i fun Y=>?_));refine AOps.nil ?_;(repeat refine WN ?_)
  refine AWP.front k.M ?_;refine AWP.front B ?_;refine AWP.front A ?_;refine AWP.front k.X ?_
  (refine AWP.ret ?_;(repeat (first | refine inB_r ?_ | refine andThen_r ?_));refine retQ_r ?_)
  exact Ends.sp [iA 0] _ ⟨(A,B),rfl,stS_mk (n:=l.length + 1) (m:=l.length + 1) (c:=l.length + 1) (by simp) (by simp) (by rw [List.map_append]) (by rw [List.map_append]) rfl (by simp)⟩
theorem isNaN_ps (a:Int):PS Try.prog 57 [iA a] (bA false):=by
 refine Spec.of (nt:=6) (res:=[.tmp 2]) Try.func57 rfl (by kernel_rfl) rfl rfl rfl fun Sf=>?_
 (repeat (first | refine WK ?_ | refine All.i fun X=>?_ | refine AllY.i fun Y=>?_))
 (refine AWP.ret ?_;(repeat (first | refine inB_r ?_ | refine andThen_r ?_));refine retQ_r ?_);refine Ends.ps ?_
 have:decide (a ≠ a) = false:=decide_eq_false (by simp)
 rw [this]
def cmpI (a b:Int):Int:=if a < b then -1 else if b < a then 1 else 0
theorem compare_ps (a b:Int):PS Try.prog 46 [iA a,iA b] (iA (cmpI a b)):=by
 refine Spec.of (nt:=20) (res:=[.tmp 4]) Try.func46 rfl (by kernel_rfl) rfl rfl rfl fun Sf=>?_
 (repeat (first | (refine AOps.gN ?_;first | (refine AOps.g_callf ?_;first | refine AOps.c1 (h:=(isNaN_ps a)) (k:=?_) | refine AOps.c1 (h:=(isNaN_ps b)) (k:=?_))) | refine WK ?_ | refine All.i fun X=>?_ | refine AllY.i fun Y=>?_))
 refine AWP.cond_f rfl rfl ?_
 (repeat (first | refine WK ?_ | refine All.i fun X=>?_ | refine AllY.i fun Y=>?_))
 refine AWP.cond_f rfl rfl ?_
 (repeat (first | refine WK ?_ | refine All.i fun X=>?_ | refine AllY.i fun Y=>?_))
 refine AWP.cond rfl (fun h=>?_) (fun h=>?_)
 ·have h:a < b:=by simpa using h
  (repeat (first | refine WK ?_ | refine All.i fun X=>?_ | refine AllY.i fun Y=>?_))
  (refine AWP.ret ?_;(repeat (first | refine inB_r ?_ | refine andThen_r ?_));refine retQ_r ?_);refine Ends.ps ?_
  rw [cmpI,if_pos h]
 ·have h:¬ a < b:=by simpa using h
  (repeat (first | refine WK ?_ | refine All.i fun X=>?_ | refine AllY.i fun Y=>?_))
  refine AWP.cond rfl (fun h2=>?_) (fun h2=>?_)
  ·have h2:b < a:=by simpa using h2
   (repeat (first | refine WK ?_ | refine All.i fun X=>?_ | refine AllY.i fun Y=>?_))
   (refine AWP.ret ?_;(repeat (first | refine inB_r ?_ | refine andThen_r ?_));refine retQ_r ?_);refine Ends.ps ?_
   rw [cmpI,if_neg h,if_pos h2]
  ·have h2:¬ b < a:=by simpa using h2
   (repeat (first | refine WK ?_ | refine All.i fun X=>?_ | refine AllY.i fun Y=>?_))
   (refine AWP.ret ?_;(repeat (first | refine inB_r ?_ | refine andThen_r ?_));refine retQ_r ?_);refine Ends.ps ?_
   rw [cmpI,if_neg h,if_neg h2]
def cmpL:List Int → List Int → Int
 | [],[]=>0
 | [],_ :: _=>-1
 | _ :: _,[]=>1
 | x :: a,y :: b=>if cmpI x y ≠ 0 then cmpI x y else cmpL a b
theorem cmpL_at {a b:List Int} {i:Nat} (ha:i < a.length) (hb:i < b.length):cmpL (a.drop i) (b.drop i) = if cmpI a[i] b[i] ≠ 0 then cmpI a[i] b[i] else cmpL (a.drop (i + 1)) (b.drop (i + 1)):=by
 rw [List.drop_eq_getElem_cons ha,List.drop_eq_getElem_cons hb,cmpL]
theorem compareL_ps (a b:List Int) (ha:a.length ≤ 1099511627776):PS Try.prog 63 [intsA false a,intsA false b] (iA (cmpL a b)):=by
 have ham:(a.map iA).length = a.length:=List.length_map _
 have hbm:(b.map iA).length = b.length:=List.length_map _
 refine Spec.of (nt:=36) (res:=[.tmp 4]) Try.func63 rfl (by kernel_rfl) rfl rfl rfl fun Sf=>?_
 (repeat (first | refine WK ?_ | refine All.i fun X=>?_ | refine AllY.i fun Y=>?_))
 refine AWP.lp (fun (i:Nat)=>⟨[(0,intsA false a),(1,intsA false b),(9,intsA false a),(10,iA (a.map iA).length),(11,iA i)],Sf⟩) (fun i=>i ≤ a.length ∧ i ≤ b.length ∧ cmpL a b = cmpL (a.drop i) (b.drop i)) (fun i=>a.length - i) 0 ⟨by omega,by omega,rfl⟩ ?_
 rintro i ⟨hi,hib,hc⟩
 (repeat (first | refine WK ?_ | refine All.i fun X=>?_ | refine AllY.i fun Y=>?_))
 refine AWP.cond rfl (fun h=>?_) (fun h=>?_)
 ·have h:i < a.length:=by rw [decide_eq_true_eq,ham] at h;omega
  have hat:(a.map iA)[i]? = some (iA a[i]):=map_at _ h
  obtain ⟨x,hx⟩:∃ x,a[i] = x:=⟨_,rfl⟩
  rw [hx] at hat
  have hil:i < (a.map iA).length:=by omega
  (repeat (first | refine WK ?_ | refine All.i fun X=>?_ | refine AllY.i fun Y=>?_))
  refine AWP.cond rfl (fun h2=>?_) (fun h2=>?_)
  ·have h2:i = b.length:=by rw [decide_eq_true_eq,hbm] at h2;omega
   (repeat (first | refine WK ?_ | refine All.i fun X=>?_ | refine AllY.i fun Y=>?_))
   (refine AWP.ret ?_;(repeat (first | refine inB_r ?_ | refine andThen_r ?_));refine retQ_r ?_);refine Ends.ps ?_
   have hbn:b.drop i = []:=List.drop_eq_nil_of_le (by omega)
   rw [hc,hbn,List.drop_eq_getElem_cons h]
   rfl
  ·have h2:i < b.length:=by rw [decide_eq_false_iff_not,hbm] at h2;omega
   have hat2:(b.map iA)[i]? = some (iA b[i]):=map_at _ h2
   have hil2:i < (b.map iA).length:=by omega
   rw [cmpL_at h h2] at hc
   obtain ⟨y,hy⟩:∃ y,b[i] = y:=⟨_,rfl⟩
   rw [hx,hy] at hc
   rw [hy] at hat2
   have hcm:=compare_ps x y
   obtain ⟨z,hz⟩:∃ z,cmpI x y = z:=⟨_,rfl⟩
   rw [hz] at hcm hc
   (repeat (first | (refine AOps.gN ?_;first | (refine AOps.g_callf ?_;first | refine AOps.c2 (h:=(hcm ..)) (k:=?_))) | refine WK ?_ | refine All.i fun X=>?_ | refine AllY.i fun Y=>?_))
   refine AWP.cond rfl (fun h3=>?_) (fun h3=>?_)
   ·have h3:z ≠ 0:=by simpa using h3
    (repeat (first | refine WK ?_ | refine All.i fun X=>?_ | refine AllY.i fun Y=>?_))
    (refine AWP.ret ?_;(repeat (first | refine inB_r ?_ | refine andThen_r ?_));refine retQ_r ?_);refine Ends.ps ?_
    rw [hc,if_pos h3]
   ·have h3:z = 0:=by simpa using h3
    rw [if_neg (by simp [h3])] at hc
    (repeat (first | refine WK ?_ | refine All.i fun X=>?_ | refine AllY.i fun Y=>?_))
    exact lp_next (i + 1) ⟨by omega,by omega,hc⟩ (by omega)
 ·have h:i = a.length:=by rw [decide_eq_false_iff_not,ham] at h;omega
  subst h
  rw [List.drop_length] at hc
  (repeat (first | refine WK ?_ | refine All.i fun X=>?_ | refine AllY.i fun Y=>?_))
  refine AWP.cond rfl (fun h2=>?_) (fun h2=>?_)
  ·have h2:a.length < b.length:=by rw [decide_eq_true_eq,ham,hbm] at h2;omega
   (repeat (first | refine WK ?_ | refine All.i fun X=>?_ | refine AllY.i fun Y=>?_))
   (refine AWP.ret ?_;(repeat (first | refine inB_r ?_ | refine andThen_r ?_));refine retQ_r ?_);refine Ends.ps ?_
   rw [hc,List.drop_eq_getElem_cons h2]
   rfl
  ·have h2:a.length = b.length:=by rw [decide_eq_false_iff_not,ham,hbm] at h2;omega
   (repeat (first | refine WK ?_ | refine All.i fun X=>?_ | refine AllY.i fun Y=>?_))
   (refine AWP.ret ?_;(repeat (first | refine inB_r ?_ | refine andThen_r ?_));refine retQ_r ?_);refine Ends.ps ?_
   rw [hc,List.drop_eq_nil_of_le (by omega)]
   rfl
def fillL {α:Type} (f:α → AV) (z:AV) (l:List α) (i:Nat):List AV:=(l.take i).map f ++ List.replicate (l.length - i) z
theorem fillL_len {α:Type} (f:α → AV) (z:AV) (l:List α) {i:Nat} (h:i ≤ l.length):(fillL f z l i).length = l.length:=by
 unfold fillL
 rw [List.length_append,List.length_map,List.length_take,List.length_replicate]
 omega
theorem fillL_zero {α:Type} (f:α → AV) (z:AV) (l:List α):fillL f z l 0 = List.replicate l.length z:=by unfold fillL;simp
theorem fillL_all {α:Type} (f:α → AV) (z:AV) (l:List α):fillL f z l l.length = l.map f:=by unfold fillL;simp
theorem fillL_at {α:Type} (f:α → AV) (z:AV) (l:List α) {i:Nat} (h:i < l.length):(fillL f z l i)[i]? = some z:=by
 unfold fillL
 have hl:((l.take i).map f).length = i:=by rw [List.length_map,List.length_take];omega
 rw [List.getElem?_append_right (by omega),hl,Nat.sub_self,List.getElem?_replicate,if_pos (by omega)]
theorem fillL_set {α:Type} (f:α → AV) (z:AV) (l:List α) {i:Nat} (h:i < l.length):(fillL f z l i).set i (f l[i]) = fillL f z l (i + 1):=by
 unfold fillL
 have hl:((l.take i).map f).length = i:=by rw [List.length_map,List.length_take];omega
 rw [List.set_append_right _ _ (by omega),hl,Nat.sub_self,show l.length - i = (l.length - (i + 1)) + 1 by omega,List.replicate_succ,List.set_cons_zero,List.take_succ_eq_append_getElem h,List.map_append,List.append_assoc]
 rfl
theorem kindsOf_ps (l:List Comp) (hl:l.length ≤ 1099511627776):PS Try.prog 60 [compsA false false l] (intsA true (l.map (·.kind))):=by
 have hlm:(l.map (compA false)).length = l.length:=List.length_map _
 refine Spec.of (nt:=23) (res:=[.tmp 2]) Try.func60 rfl (by kernel_rfl) rfl rfl rfl fun Sf=>?_
 (repeat refine WF ?_);refine AWP.region ?_;(repeat (first | refine WO ?_ | refine All.i fun X=>?_ | refine AllY.i fun Y=>?_));refine AOps.nil ?_;(repeat refine WN ?_)
 (repeat first | refine AOps.nil ?_ | refine WF ?_)
 (repeat refine WF ?_);refine AWP.region ?_;(repeat (first | (refine AOps.gN ?_;first | (refine AOps.g_make ?_;refine AOps.goM (iA 0) fun K=>?_)) | refine WO ?_ | refine All.i fun K=>?_ | refine AllY.i fun Y=>?_));refine AOps.nil ?_;(repeat refine WN ?_)
 rw [hlm,← fillL_zero (fun c:Comp=>iA c.kind)]
 (repeat first | refine AOps.nil ?_ | refine WF ?_)
 (repeat refine WF ?_);refine AWP.region ?_;(repeat (first | refine WO ?_ | refine All.i fun X=>?_ | refine AllY.i fun Y=>?_));refine AOps.nil ?_;(repeat refine WN ?_)
 (repeat first | refine AOps.nil ?_ | refine WF ?_)
 refine AWP.lp (fun (i:Nat)=>⟨[(3,.sl K 0 l.length),(9,compsA false false l),(10,iA (l.map (compA false)).length),(11,iA i)],(K,.row 3 1 (fillL (fun c:Comp=>iA c.kind) (iA 0) l i)) :: Sf⟩) (fun i=>i ≤ l.length) (fun i=>l.length - i) 0 (by omega) ?_
 rintro i hi
 have hfl:=fillL_len (fun c:Comp=>iA c.kind) (iA 0) l hi
 (repeat refine WF ?_);refine AWP.region ?_;(repeat (first | refine WO ?_ | refine All.i fun X=>?_ | refine AllY.i fun Y=>?_));refine AOps.nil ?_;(repeat refine WN ?_)
 (repeat first | refine AOps.nil ?_ | refine WF ?_)
 refine AWP.cond rfl (fun h=>?_) (fun h=>?_)
 ·have h:i < l.length:=by rw [decide_eq_true_eq,hlm] at h;omega
  have hat:(l.map (compA false))[i]? = some (compA false l[i]):=map_at _ h
  have hil:i < (l.map (compA false)).length:=by omega
  have hfa:=fillL_at (fun c:Comp=>iA c.kind) (iA 0) l h
  have hfs:=fillL_set (fun c:Comp=>iA c.kind) (iA 0) l h
  obtain ⟨⟨ck,cv⟩,hc⟩:∃ c,l[i] = c:=⟨_,rfl⟩
  rw [hc] at hat hfs
  (repeat first | refine AOps.nil ?_ | refine WF ?_)
  (repeat refine WF ?_);refine AWP.region ?_;(repeat (first | refine WO ?_ | refine All.i fun C=>?_ | refine AllY.i fun Y=>?_));refine AOps.nil ?_;(repeat refine WN ?_)
  (repeat first | refine AOps.nil ?_ | refine WF ?_)
  (repeat refine WF ?_);refine AWP.region ?_;(repeat (first | (refine AOps.gN ?_;first | refine AOps.go (h:=W.idx rfl rfl (by exact At.f) rfl (by omega) (Nat.zero_add _)) (k:=?_)) | refine WO ?_ | refine All.i fun X=>?_ | refine AllY.i fun Y=>?_));refine AOps.nil ?_;(repeat refine WN ?_)
  rw [hfs]
  (repeat first | refine AOps.nil ?_ | refine WF ?_)
  (repeat refine WF ?_);refine AWP.region ?_;(repeat (first | refine WO ?_ | refine All.i fun X=>?_ | refine AllY.i fun Y=>?_));refine AOps.nil ?_;(repeat refine WN ?_)
  exact lp_next (i + 1) (by omega)
 ·have h:i = l.length:=by rw [decide_eq_false_iff_not,hlm] at h;omega
  subst h
  rw [fillL_all]
  (repeat first | refine AOps.nil ?_ | refine WF ?_)
  (repeat refine WF ?_);refine AWP.region ?_;(repeat (first | refine WO ?_ | refine All.i fun X=>?_ | refine AllY.i fun Y=>?_));refine AOps.nil ?_;(repeat refine WN ?_)
  (refine AWP.ret ?_;(repeat (first | refine inB_r ?_ | refine andThen_r ?_));refine retQ_r ?_)
  exact ⟨[.sl K 0 l.length],[intsA true (l.map (·.kind))],_,[],.cons (.tmp rfl) rfl .nil,.cons (.cell (by unfold intsA;rw [show (l.map (·.kind)).map iA = l.map (fun c:Comp=>iA c.kind) from List.map_map];exact .sl (p:=0) .here (by simp))) .nil,by exact Sub.f,rfl,rfl⟩
def MonoL {α:Type} (g:α → Int) (l:List α):Prop:=∀ (a b:Nat) (x y:α),a ≤ b → l[a]? = some x → l[b]? = some y → g y < 0 → g x < 0
def Spl {α:Type} (g:α → Int) (l:List α) (i j:Nat):Prop:=(∀ (k:Nat) (x:α),k < i → l[k]? = some x → g x < 0) ∧ ∀ (k:Nat) (x:α),j ≤ k → l[k]? = some x → ¬ g x < 0
structure Found {α:Type} (g:α → Int) (l:List α) (r:Nat × Bool):Prop where
 le:r.1 ≤ l.length
 eq:r.2 = true ↔ ∃ x,l[r.1]? = some x ∧ g x = 0
 mono:MonoL g l → Spl g l r.1 r.1
theorem Spl.lo {α:Type} {g:α → Int} {l:List α} {i j m:Nat} {y:α} (hM:MonoL g l) (h:Spl g l i j) (hy:l[m]? = some y) (hg:g y < 0):Spl g l (m + 1) j :=
 ⟨fun k x hk hx=>hM k m x y (by omega) hx hy hg,h.2⟩
theorem Spl.hi {α:Type} {g:α → Int} {l:List α} {i j m:Nat} {y:α} (hM:MonoL g l) (h:Spl g l i j) (hy:l[m]? = some y) (hg:¬ g y < 0):Spl g l i m :=
 ⟨h.1,fun k x hk hx hx0=>hg (hM m k y x hk hy hx hx0)⟩
abbrev ptrs {α:Type} (px:α → Nat) (l:List α):List AV:=l.map fun x=>.ptr (px x) 0 0
theorem searchQ_sp {α:Type} (Tb:Nat) (l:List α) (px:α → Nat) (R:List Slot) (ks:List Int) (f:FuncId) (g:α → Int) (hl:l.length ≤ 4611686018427387904) (hf:∀ x ∈ l,Spec Try.prog f [.ptr (px x) 0 0,intsA false ks] R fun r S'=>r = iA (g x) ∧ S' = R) :
  Spec Try.prog 61 [.sl Tb 0 l.length,intsA false ks,.fn f []] ((Tb,.row 90 1 (ptrs px l)) :: R) fun r S'=>∃ b,Found g l b ∧ r = .tup [iA b.1,bA b.2] ∧ S' = (Tb,.row 90 1 (ptrs px l)) :: R:=by
 refine Spec.of (nt:=49) (res:=[.tmp 6,.tmp 7]) Try.func61 rfl (by kernel_rfl) rfl rfl rfl fun Sf=>?_
 have hlm:(ptrs px l).length = l.length:=List.length_map _
 (repeat (first | refine WK ?_ | refine All.i fun X=>?_ | refine AllY.i fun Y=>?_))
 refine AWP.lp2 (fun (i j:Nat)=>⟨[(0,.sl Tb 0 l.length),(1,intsA false ks),(2,.fn f []),(8,iA l.length),(9,iA i),(10,iA j)],(Tb,.row 90 1 (ptrs px l)) :: (R ++ Sf)⟩) (fun i j=>i ≤ j ∧ j ≤ l.length ∧ (MonoL g l → Spl g l i j)) (fun i j=>j - i) 0 l.length ⟨Nat.zero_le _,by omega,fun _=>⟨fun k x h=>absurd h (by omega),fun k x h hx=>by have:=(List.getElem?_eq_some_iff.1 hx).1;omega⟩⟩ ?_
 rintro i j ⟨hij,hjn,hmono⟩
 (repeat (first | refine WK ?_ | refine All.i fun X=>?_ | refine AllY.i fun Y=>?_))
 refine AWP.cond rfl (fun hc=>?_) (fun hc=>?_)
 ·have h:i < j:=by rw [decide_eq_true_eq] at hc;omega
  have hmid:((i:Int) + j).fdiv (2 ^ 1) = (((i + j) / 2:Nat):Int):=by
   rw [Int.fdiv_eq_ediv_of_nonneg _ (by decide)];omega
  have hw1:IntKind.u64.wrap ((i:Int) + j) = i + j:=by rw [IntKind.wrap_u64];omega
  have hw2:IntKind.i64.wrap (((i:Int) + j).fdiv (2 ^ 1)) = ((i:Int) + j).fdiv (2 ^ 1):=by
   rw [IntKind.wrap_i64,hmid];omega
  (repeat refine WF ?_);refine AWP.region ?_;(repeat (first | (refine AOps.gN ?_;first | refine AOps.p (W.conv .i64 .u64 (by kernel_rfl) (by kernel_rfl) rfl hw1) rfl ?_ | refine AOps.p (W.shr 1 rfl rfl rfl (by decide)) rfl ?_ | refine AOps.p (W.conv .u64 .i64 (by kernel_rfl) (by kernel_rfl) rfl hw2) rfl ?_) | refine WO ?_ | refine All.i fun X=>?_ | refine AllY.i fun Y=>?_));refine AOps.nil ?_;(repeat refine WN ?_)
  rw [hmid]
  obtain ⟨m,hm⟩:∃ m,(i + j) / 2 = m:=⟨_,rfl⟩
  rw [hm]
  have hml:m < l.length:=by omega
  obtain ⟨y,hy⟩:∃ y,l[m] = y:=⟨_,rfl⟩
  have hya:l[m]? = some y:=by rw [List.getElem?_eq_getElem hml,hy]
  have hat:(ptrs px l)[m]? = some (.ptr (px y) 0 0):=by rw [List.getElem?_map,hya];rfl
  have hfy:=hf y (by rw [← hy];exact List.getElem_mem hml)
  (repeat refine WF ?_);refine AWP.region ?_;(repeat (first | (refine AOps.gN ?_;first | refine AOps.go (h:=W.idx rfl rfl (by exact At.f) rfl (by omega) (Nat.zero_add _)) (k:=?_) | refine AOps.uV2 [(Tb,_)] (h:=hfy) (k:=?_)) | refine WO ?_ | refine All.i fun X=>?_ | refine AllY.i fun Y=>?_));refine AOps.nil ?_;(repeat refine WN ?_)
  refine AWP.cond rfl (fun he=>?_) (fun he=>?_)
  ·have he:g y < 0:=by simpa using he
   (repeat (first | refine WK ?_ | refine All.i fun X=>?_ | refine AllY.i fun Y=>?_))
   refine lp_next2 (m + 1) j ⟨by omega,hjn,fun hM=>(hmono hM).lo hM hya he⟩
  ·have he:¬ g y < 0:=by simpa using he
   (repeat (first | refine WK ?_ | refine All.i fun X=>?_ | refine AllY.i fun Y=>?_))
   refine lp_next2 i m ⟨by omega,by omega,fun hM=>(hmono hM).hi hM hya he⟩
 ·have h:i = j:=by rw [decide_eq_false_iff_not] at hc;omega
  subst h
  by_cases hin:i < l.length
  ·have hil:i < l.length:=by omega
   have g1:decide ((i:Int) < l.length) = true:=decide_eq_true (by omega)
   obtain ⟨y,hy⟩:∃ y,l[i] = y:=⟨_,rfl⟩
   have hya:l[i]? = some y:=by rw [List.getElem?_eq_getElem hil,hy]
   have hat:(ptrs px l)[i]? = some (.ptr (px y) 0 0):=by rw [List.getElem?_map,hya];rfl
   have hfy:=hf y (by rw [← hy];exact List.getElem_mem hil)
   (repeat (first | (refine AOps.gN ?_;first | refine AOps.go (h:=W.idx rfl rfl (by exact At.f) rfl (by omega) (Nat.zero_add _)) (k:=?_) | refine AOps.uV2 [(Tb,_)] (h:=hfy) (k:=?_)) | refine WK ?_ | refine All.i fun X=>?_ | refine AllY.i fun Y=>?_))
   (refine AWP.ret ?_;(repeat (first | refine inB_r ?_ | refine andThen_r ?_));refine retQ_r ?_)
   exact Ends.sp [iA i,bA (decide (g y = 0))] ((Tb,.row 90 1 (ptrs px l)) :: R) ⟨(i,decide (g y = 0)),⟨by simp;omega,by simp [hya],hmono⟩,rfl,rfl⟩
  ·have g1:decide ((i:Int) < l.length) = false:=decide_eq_false (by omega)
   (repeat (first | refine WK ?_ | refine All.i fun X=>?_ | refine AllY.i fun Y=>?_))
   (refine AWP.ret ?_;(repeat (first | refine inB_r ?_ | refine andThen_r ?_));refine retQ_r ?_)
   exact Ends.sp [iA i,bA false] ((Tb,.row 90 1 (ptrs px l)) :: R) ⟨(i,false),⟨by simp;omega,by simp [List.getElem?_eq_none (show l.length ≤ i by omega)],hmono⟩,rfl,rfl⟩
def idxF {α:Type} (l:List α) (p:α → Bool):Int:=match l.findIdx? p with
 | some i=>i
 | none=>-1
theorem idxF_none {α:Type} {l:List α} {p:α → Bool} (h:∀ j (hj:j < l.length),p l[j] = false):idxF l p = -1:=by
 have:l.findIdx? p = none:=by
  rw [List.findIdx?_eq_none_iff]
  intro x hx
  obtain ⟨j,hj,rfl⟩:=List.getElem_of_mem hx
  exact h j hj
 simp [idxF,this]
theorem idxF_some {α:Type} {l:List α} {p:α → Bool} {i:Nat} (hi:i < l.length) (e:p l[i] = true) (h:∀ j (hj:j < i),p (l[j]'(by omega)) = false):idxF l p = i:=by
 have:l.findIdx? p = some i:=by
  rw [List.findIdx?_eq_some_iff_getElem]
  exact ⟨hi,e,fun j hj=>by simpa using h j hj⟩
 simp [idxF,this]
theorem idxF_any {α:Type} (l:List α) (p:α → Bool):decide ((0:Int) ≤ idxF l p) = l.any p:=by
 unfold idxF
 cases h:l.findIdx? p with
 | none =>
  rw [List.findIdx?_eq_none_iff] at h
  have:l.any p = false:=List.any_eq_false.2 fun x hx=>by rw [h x hx];simp
  rw [this]
  rfl
 | some i =>
  obtain ⟨hi,e,_⟩:=List.findIdx?_eq_some_iff_getElem.1 h
  have:l.any p = true:=List.any_eq_true.2 ⟨_,List.getElem_mem hi,e⟩
  rw [this]
  simp
theorem idxF_range {α:Type} (l:List α) (p:α → Bool) : -1 ≤ idxF l p ∧ idxF l p < l.length ∧ idxF l p ≤ l.length:=by
 unfold idxF
 cases h:l.findIdx? p with
 | none=>simp;omega
 | some i =>
  obtain ⟨hi,_⟩:=List.findIdx?_eq_some_iff_getElem.1 h
  simp;omega
structure Tab where
 X:Nat
 ks:List Int
 ek:StK
 es:List (Int × Ent)
 cs:List (StK × List (Int × List Int))
def colsS (cs:List (StK × List (Int × List Int))):List Slot:=cs.flatMap fun c=>stS c.1 c.2
abbrev colP (cs:List (StK × List (Int × List Int))):AV:=.lst false 126 1 (cs.map fun c=>.ptr c.1.X 0 0)
abbrev tabH (t:Tab):Slot:=(t.X,.row 96 3 [.agg [intsA false t.ks,.ptr t.ek.X 0 0,colP t.cs]])
abbrev tabS (t:Tab):List Slot:=tabH t :: (stE t.ek t.es ++ colsS t.cs)
theorem colsS_app (a b:List (StK × List (Int × List Int))):colsS (a ++ b) = colsS a ++ colsS b:=List.flatMap_append
theorem colsS_cons (c:StK × List (Int × List Int)) (b:List (StK × List (Int × List Int))):colsS (c :: b) = stS c.1 c.2 ++ colsS b:=List.flatMap_cons
theorem splitL_at {α:Type} {l:List α} {i:Nat} (h:i < l.length):∃ l1 l2,l = l1 ++ l[i] :: l2 ∧ l1.length = i:=⟨l.take i,l.drop (i + 1),by rw [List.getElem_cons_drop,List.take_append_drop],by rw [List.length_take];omega⟩
def tComps (t:Tab) (n:Int):List Comp:=(t.ks.zip t.cs).map fun q=>⟨q.1,(stGet q.2.2 n).getD []⟩
structure TabOK (t:Tab):Prop where
 len:t.ks.length = t.cs.length
 ks:t.ks.length ≤ 16
 es:ColOK t.es
 cs:∀ c ∈ t.cs,ColOK c.2
 keys:∀ c ∈ t.cs,∀ n,n ∈ keysC c.2 ↔ n ∈ keysC t.es
theorem add1_sp (t:Tab) (ks:List Int) (hl:t.ks.length ≤ 1099511627776):Spec Try.prog 62 [.ptr t.X 0 0,intsA false ks] [tabH t] fun r S'=>r = iA (cmpL t.ks ks) ∧ S' = [tabH t]:=by
 have h1:=compareL_ps t.ks ks hl
 refine Spec.of (nt:=11) (res:=[.tmp 4]) Try.func62 rfl (by kernel_rfl) rfl rfl rfl fun Sf=>?_
 (repeat refine WF ?_);refine AWP.region ?_;(repeat (first | refine WO ?_ | refine All.i fun X=>?_ | refine AllY.i fun Y=>?_));refine AOps.nil ?_;(repeat refine WN ?_)
 (repeat first | refine AOps.nil ?_ | refine WF ?_)
 (repeat refine WF ?_);refine AWP.region ?_;(repeat (first | (refine AOps.gN ?_;first | (refine AOps.g_callf ?_;first | refine AOps.c2 (h:=(h1 ..)) (k:=?_))) | refine WO ?_ | refine All.i fun X=>?_ | refine AllY.i fun Y=>?_));refine AOps.nil ?_;(repeat refine WN ?_)
 (refine AWP.ret ?_;(repeat (first | refine inB_r ?_ | refine andThen_r ?_));refine retQ_r ?_)
 exact Ends.sp [iA (cmpL t.ks ks)] [tabH t] ⟨rfl,rfl⟩
theorem tComps_at {t:Tab} {n:Int} {i:Nat} (h:i < (tComps t n).length) (h1:i < t.ks.length) (h2:i < t.cs.length):(tComps t n)[i] = ⟨t.ks[i],(stGet t.cs[i].2 n).getD []⟩:=by simp [tComps]
theorem cmpI_eqz {x y:Int}:cmpI x y = 0 ↔ x = y:=by unfold cmpI;split <;> (try split) <;> omega
theorem cmpI_ltz {x y:Int}:cmpI x y < 0 ↔ x < y:=by unfold cmpI;split <;> (try split) <;> omega
theorem cmpL_zero:∀ {a b:List Int},cmpL a b = 0 ↔ a = b
 | [],[]=>by simp [cmpL]
 | [],_ :: _=>by simp [cmpL]
 | _ :: _,[]=>by simp [cmpL]
 | x :: a,y :: b=>by
  rw [cmpL,List.cons.injEq]
  by_cases h:cmpI x y = 0
  ·rw [if_neg (by simp [h]),cmpL_zero,cmpI_eqz.1 h];simp
  ·rw [if_pos h]
   exact ⟨fun e=>absurd e h,fun e=>absurd (cmpI_eqz.2 e.1) h⟩
theorem cmpL_trans:∀ {a b c:List Int},cmpL a b < 0 → cmpL b c < 0 → cmpL a c < 0
 | [],[],_,h,_=>by simp [cmpL] at h
 | [],_ :: _,[],_,h=>by simp [cmpL] at h
 | [],_ :: _,_ :: _,_,_=>by simp [cmpL]
 | _ :: _,[],_,h,_=>by simp [cmpL] at h
 | _ :: _,_ :: _,[],_,h=>by simp [cmpL] at h
 | x :: a,y :: b,z :: c,h1,h2=>by
  rw [cmpL] at h1 h2 ⊢
  by_cases e1:cmpI x y = 0
  ·have e1':=cmpI_eqz.1 e1
   subst e1'
   rw [if_neg (by simp [e1])] at h1
   by_cases e2:cmpI x z = 0
   ·rw [if_neg (by simp [e2])] at h2 ⊢
    exact cmpL_trans h1 h2
   ·rw [if_pos e2] at h2 ⊢
    exact h2
  ·rw [if_pos e1] at h1
   have l1:=cmpI_ltz.1 h1
   by_cases e2:cmpI y z = 0
   ·have e2':=cmpI_eqz.1 e2
    subst e2'
    rw [if_pos e1]
    exact h1
   ·rw [if_pos e2] at h2
    have l2:=cmpI_ltz.1 h2
    have l3:cmpI x z < 0:=cmpI_ltz.2 (by omega)
    rw [if_pos (by omega)]
    exact l3
theorem cmpL_swap:∀ {a b:List Int},¬ cmpL a b < 0 → a ≠ b → cmpL b a < 0
 | [],[],_,h=>absurd rfl h
 | [],_ :: _,h,_=>absurd (by simp [cmpL]) h
 | _ :: _,[],_,_=>by simp [cmpL]
 | x :: a,y :: b,h,hne=>by
  rw [cmpL] at h ⊢
  by_cases e:cmpI x y = 0
  ·have e':=cmpI_eqz.1 e
   subst e'
   rw [if_neg (by simp [e])] at h ⊢
   exact cmpL_swap h fun e2=>hne (by rw [e2])
  ·rw [if_pos e] at h
   have hxy:x ≠ y:=fun e2=>e (cmpI_eqz.2 e2)
   have:¬ x < y:=fun l=>h (cmpI_ltz.2 l)
   have l:cmpI y x < 0:=cmpI_ltz.2 (by omega)
   rw [if_pos (by omega)]
   exact l
structure Ar where
 A:Nat
 G:Nat
 Tb:Nat
 O:Nat
 Tv:Nat
 K:AV → Value → Prop
 g:Int → Option Value
 c:Nat
 kinds:List Kind
 gens:List Int
 ts:List Tab
def tabsS (ts:List Tab):List Slot:=ts.flatMap tabS
abbrev arH (a:Ar):List Slot:=[(a.A,.row 85 4 [.agg [kindsA false false a.kinds,.sl a.G 0 a.gens.length,.sl a.Tb 0 a.ts.length,.mp a.O]]),(a.G,.row 3 1 (a.gens.map iA)),(a.O,.ob (MapF Try.prog 3 90 a.g a.c)),(a.Tv,.tv a.K),(a.Tb,.row 90 1 (ptrs Tab.X a.ts))]
abbrev arS (a:Ar):List Slot:=arH a ++ tabsS a.ts
theorem tabsS_app (a b:List Tab):tabsS (a ++ b) = tabsS a ++ tabsS b:=List.flatMap_append
theorem tabsS_cons (t:Tab) (b:List Tab):tabsS (t :: b) = tabS t ++ tabsS b:=List.flatMap_cons
theorem tabs_open {l1 l2:List Tab} {t:Tab} (R:List Slot):(tabsS (l1 ++ t :: l2) ++ R).Perm (tabS t ++ (tabsS l1 ++ (tabsS l2 ++ R))):=by
 rw [tabsS_app,tabsS_cons,List.append_assoc,List.append_assoc]
 exact perm_mid _ _ _
abbrev tKeys (ts:List Tab):List Int:=ts.flatMap fun t=>keysC t.es
def tItems (t:Tab):List Item:=t.es.map fun e=>⟨e.2,tComps t e.1⟩
def arItems (ts:List Tab):List Item:=ts.flatMap tItems
structure ArOK (a:Ar):Prop where
 tab:∀ t ∈ a.ts,TabOK t
 ord:a.ts.Pairwise fun t u=>cmpL t.ks u.ks < 0
 keys:(tKeys a.ts).Nodup
 ent:∀ t ∈ a.ts,∀ e ∈ t.es,e.1 = e.2.n
 g:∀ n u,a.g n = some u → ∃ t ∈ a.ts,n ∈ keysC t.es ∧ a.K (.ptr t.X 0 0) u ∧ ∃ b:Nat,u = .pointer (some ⟨b,0,none⟩)
 gn:∀ n ∈ tKeys a.ts,(a.g n).isSome = true
 cnt:a.c = (tKeys a.ts).length
theorem ArOK.lt {a:Ar} (h:ArOK a):∀ n ∈ tKeys a.ts,0 ≤ n ∧ n < 256:=fun n hn=>by
 obtain ⟨t,ht,hm⟩:=List.mem_flatMap.1 hn
 exact (h.tab t ht).es.lt n hm
theorem ArOK.c_le {a:Ar} (h:ArOK a):a.c ≤ 256:=by rw [h.cnt];exact nodup256 h.keys h.lt
def ArNE (ts:List Tab):Prop:=∀ t ∈ ts,t.es ≠ []
theorem ArOK.ts_le {a:Ar} (h:ArOK a) (hne:ArNE a.ts):a.ts.length ≤ 256:=by
 refine Nat.le_trans ?_ h.c_le
 rw [h.cnt,tKeys,List.length_flatMap]
 have:∀ ts:List Tab,(∀ t ∈ ts,t.es ≠ []) → ts.length ≤ (ts.map fun t=>(keysC t.es).length).sum:=by
  intro ts
  induction ts with
  | nil=>intro _;simp
  | cons t ts ih =>
   intro hh
   have h1:=ih fun t ht=>hh t (by simp [ht])
   have h2:0 < (keysC t.es).length:=by rw [List.length_map];exact List.length_pos_iff.2 (hh t (by simp))
   simp only [List.length_cons,List.map_cons,List.sum_cons]
   omega
 exact this a.ts hne
theorem ArOK.mono {a:Ar} (h:ArOK a) (ks:List Int):MonoL (fun t:Tab=>cmpL t.ks ks) a.ts:=by
 intro i j x y hij hx hy hg
 rcases Nat.lt_or_eq_of_le hij with hlt | rfl
 ·obtain ⟨hi,rfl⟩:=List.getElem?_eq_some_iff.1 hx
  obtain ⟨hj,rfl⟩:=List.getElem?_eq_some_iff.1 hy
  exact cmpL_trans (List.pairwise_iff_getElem.1 h.ord i j hi hj hlt) hg
 ·rw [hx] at hy
  injection hy with hy
  subst hy
  exact hg
theorem ord_ins {ts:List Tab} {t:Tab} {ks:List Int} {i:Nat} (h:ts.Pairwise fun t u=>cmpL t.ks u.ks < 0) (hm:MonoL (fun t:Tab=>cmpL t.ks ks) ts) (hf:Found (fun t:Tab=>cmpL t.ks ks) ts (i,false)) (ht:t.ks = ks):(ts.take i ++ t :: ts.drop i).Pairwise fun t u=>cmpL t.ks u.ks < 0:=by
 obtain ⟨hlo,hhi⟩:=hf.mono hm
 have heq:=hf.eq
 dsimp only at hlo hhi heq
 have h1:∀ x ∈ ts.take i,cmpL x.ks ks < 0:=fun x hx=>by
  obtain ⟨j,hj,rfl⟩:=List.mem_take_iff_getElem.1 hx
  exact hlo j _ (by omega) (List.getElem?_eq_getElem (by omega))
 have h2:∀ x ∈ ts.drop i,cmpL ks x.ks < 0:=fun x hx=>by
  obtain ⟨j,hj,rfl⟩:=List.mem_iff_getElem.1 hx
  rw [List.length_drop] at hj
  rw [List.getElem_drop]
  have hg:ts[i + j]? = some ts[i + j]:=List.getElem?_eq_getElem (by omega)
  have hn:=hhi (i + j) _ (by omega) hg
  refine cmpL_swap hn fun e=>?_
  cases j with
  | zero =>
   have:(false:Bool) = true:=heq.2 ⟨ts[i],List.getElem?_eq_getElem (by omega),cmpL_zero.2 e⟩
   cases this
  | succ j =>
   have hi':ts[i]? = some ts[i]:=List.getElem?_eq_getElem (by omega)
   have h3:=List.pairwise_iff_getElem.1 h i (i + (j + 1)) (by omega) (by omega) (by omega)
   rw [e] at h3
   exact hhi i _ (Nat.le_refl _) hi' h3
 rw [List.pairwise_append]
 refine ⟨h.sublist (List.take_sublist _ _),List.pairwise_cons.2 ⟨fun x hx=>by rw [ht];exact h2 x hx,h.sublist (List.drop_sublist _ _)⟩,fun x hx y hy=>?_⟩
 rcases List.mem_cons.1 hy with rfl | hy
 ·rw [ht];exact h1 x hx
 ·exact cmpL_trans (h1 x hx) (h2 y hy)
theorem tKeys_app (a b:List Tab):tKeys (a ++ b) = tKeys a ++ tKeys b:=List.flatMap_append
theorem tKeys_cons (t:Tab) (b:List Tab):tKeys (t :: b) = keysC t.es ++ tKeys b:=List.flatMap_cons
theorem arItems_app (a b:List Tab):arItems (a ++ b) = arItems a ++ arItems b:=List.flatMap_append
theorem arItems_cons (t:Tab) (b:List Tab):arItems (t :: b) = tItems t ++ arItems b:=List.flatMap_cons
theorem ArOK.newT {a:Ar} (h:ArOK a) {t:Tab} {i Y:Nat} (ht:TabOK t) (he:t.es = []) (hf:Found (fun u:Tab=>cmpL u.ks t.ks) a.ts (i,false)):ArOK { a with Tb:=Y,ts:=a.ts.take i ++ t :: a.ts.drop i }:=by
 have hk:tKeys (a.ts.take i ++ t :: a.ts.drop i) = tKeys a.ts:=by
  rw [tKeys_app,tKeys_cons,he]
  conv=>rhs;rw [← List.take_append_drop i a.ts,tKeys_app]
  rfl
 have hm:∀ u,u ∈ a.ts.take i ++ t :: a.ts.drop i ↔ u = t ∨ u ∈ a.ts:=fun u=>by
  conv=>rhs;rw [← List.take_append_drop i a.ts]
  simp only [List.mem_append,List.mem_cons]
  constructor
  ·rintro (h | h | h)
   ·exact .inr (.inl h)
   ·exact .inl h
   ·exact .inr (.inr h)
  ·rintro (h | h | h)
   ·exact .inr (.inl h)
   ·exact .inl h
   ·exact .inr (.inr h)
 refine ⟨fun u hu=>?_,ord_ins h.ord (h.mono _) hf rfl,by rw [hk];exact h.keys,fun u hu=>?_,fun n u hg=>?_,fun n hn=>h.gn n (by rw [hk] at hn;exact hn),by rw [hk];exact h.cnt⟩
 ·rcases (hm u).1 hu with rfl | hu
  ·exact ht
  ·exact h.tab u hu
 ·rcases (hm u).1 hu with rfl | hu
  ·rw [he];intro e he;cases he
  ·exact h.ent u hu
 ·obtain ⟨w,hw,h2⟩:=h.g n u hg
  exact ⟨w,(hm w).2 (.inr hw),h2⟩
theorem items_newT {ts:List Tab} {t:Tab} {i:Nat} (he:t.es = []):arItems (ts.take i ++ t :: ts.drop i) = arItems ts:=by
 rw [arItems_app,arItems_cons,tItems,he]
 conv=>rhs;rw [← List.take_append_drop i ts,arItems_app]
 rfl
theorem keys_newT {ts:List Tab} {t:Tab} {i:Nat} (he:t.es = []):tKeys (ts.take i ++ t :: ts.drop i) = tKeys ts:=by
 rw [tKeys_app,tKeys_cons,he]
 conv=>rhs;rw [← List.take_append_drop i ts,tKeys_app]
 rfl
structure CsUp (n:Int) (l:List Comp) (i:Nat) (cs cs':List (StK × List (Int × List Int))):Prop where
 len:cs'.length = cs.length
 X:∀ j (h:j < cs.length) (h':j < cs'.length),cs'[j].1.X = cs[j].1.X
 c:∀ j (h:j < cs.length) (h':j < cs'.length),cs'[j].2 = if j < i then stPut cs[j].2 n ((l[j]?.map (·.vals)).getD []) else cs[j].2
theorem CsUp.zero (n:Int) (l:List Comp) (cs:List (StK × List (Int × List Int))):CsUp n l 0 cs cs:=⟨rfl,fun _ _ _=>rfl,fun j h h'=>by rw [if_neg (by omega)]⟩
theorem CsUp.ptrs {n:Int} {l:List Comp} {i:Nat} {cs cs':List (StK × List (Int × List Int))} (h:CsUp n l i cs cs'):cs'.map (fun c=>AV.ptr c.1.X 0 0) = cs.map (fun c=>AV.ptr c.1.X 0 0):=by
 refine List.ext_getElem (by simp [h.len]) fun j h1 h2=>?_
 rw [List.getElem_map,List.getElem_map,h.X j (by simpa using h2) (by simpa using h1)]
theorem CsUp.next {n:Int} {l:List Comp} {i:Nat} {cs cs':List (StK × List (Int × List Int))} (h:CsUp n l i cs cs') {l1 l2:List (StK × List (Int × List Int))} {c:StK × List (Int × List Int)} {v:List Int} (e:cs' = l1 ++ c :: l2) (h1:l1.length = i) (hv:l[i]?.map (·.vals) = some v) (k:StK) (hk:k.X = c.1.X):CsUp n l (i + 1) cs (l1 ++ (k,stPut c.2 n v) :: l2):=by
 have hlen:=h.len
 have hl:cs'.length = l1.length + (l2.length + 1):=by rw [e];simp
 have hi':i < cs'.length:=by omega
 have hc:cs'[i] = c:=by
  have:cs'[i]? = some c:=by rw [e,List.getElem?_append_right (by omega),h1,Nat.sub_self];rfl
  rw [List.getElem?_eq_getElem hi'] at this
  injection this
 have hold:∀ j (hj:j < cs'.length),j ≠ i → (l1 ++ (k,stPut c.2 n v) :: l2)[j]'(by simp;omega) = cs'[j]:=fun j hj hne=>by
  have h3:(l1 ++ (k,stPut c.2 n v) :: l2)[j]? = cs'[j]?:=by
   rw [e]
   by_cases hji:j < i
   ·rw [List.getElem?_append_left (by omega),List.getElem?_append_left (by omega)]
   ·rw [List.getElem?_append_right (by omega),List.getElem?_append_right (by omega),show j - l1.length = (j - i - 1) + 1 by omega]
    rfl
  rw [List.getElem?_eq_getElem hj,List.getElem?_eq_getElem (by simp;omega)] at h3
  injection h3
 have hnew:(l1 ++ (k,stPut c.2 n v) :: l2)[i]'(by simp;omega) = (k,stPut c.2 n v):=by
  have h3:(l1 ++ (k,stPut c.2 n v) :: l2)[i]? = some (k,stPut c.2 n v):=by rw [List.getElem?_append_right (by omega),h1,Nat.sub_self];rfl
  rw [List.getElem?_eq_getElem (by simp;omega)] at h3
  injection h3
 refine ⟨by simp;omega,fun j hj hj'=>?_,fun j hj hj'=>?_⟩
 ·by_cases hne:j = i
  ·subst hne
   rw [hnew,hk,← hc]
   exact h.X j hj hi'
  ·rw [hold j (by omega) hne]
   exact h.X j hj (by omega)
 ·by_cases hne:j = i
  ·subst hne
   have:=h.c j hj hi'
   rw [if_neg (by omega),hc] at this
   rw [hnew,if_pos (by omega),hv,this]
   rfl
  ·rw [hold j (by omega) hne,h.c j hj (by omega)]
   by_cases hji:j < i
   ·rw [if_pos hji,if_pos (by omega)]
   ·rw [if_neg hji,if_neg (by omega)]
section
section
variable {t:Tab} {e:Ent} {l:List Comp} {cs:List (StK × List (Int × List Int))} {k:StK}
abbrev upT (t:Tab) (k:StK) (e:Ent) (cs:List (StK × List (Int × List Int))):Tab:=⟨t.X,t.ks,k,stPut t.es e.n e,cs⟩
theorem CsUp.at {n:Int} {l:List Comp} {i:Nat} {cs cs':List (StK × List (Int × List Int))} (h:CsUp n l i cs cs') {c:StK × List (Int × List Int)} (hc:c ∈ cs'):∃ j,∃ h1:j < cs.length,∃ h2:j < cs'.length,cs'[j] = c:=by
 obtain ⟨j,hj,rfl⟩:=List.getElem_of_mem hc
 exact ⟨j,by rw [← h.len];exact hj,hj,rfl⟩
theorem TabOK.up (h:TabOK t) (hn:0 ≤ e.n ∧ e.n < 256) (hf:e.n ∉ keysC t.es) (hu:CsUp e.n l t.cs.length t.cs cs):TabOK (upT t k e cs):=by
 refine ⟨by rw [hu.len];exact h.len,h.ks,h.es.put hn e,fun c hc=>?_,fun c hc n=>?_⟩
 ·obtain ⟨j,h1,h2,rfl⟩:=hu.at hc
  rw [hu.c j h1 h2,if_pos h1]
  exact (h.cs _ (List.getElem_mem h1)).put hn _
 ·obtain ⟨j,h1,h2,rfl⟩:=hu.at hc
  have hk:=h.keys _ (List.getElem_mem h1)
  have hfc:e.n ∉ keysC t.cs[j].2:=fun hm=>hf ((hk _).1 hm)
  rw [hu.c j h1 h2,if_pos h1]
  show n ∈ keysC (stPut _ _ _) ↔ n ∈ keysC (stPut t.es e.n e)
  rw [stPut_new hfc,stPut_new hf,keysC,keysC,List.map_append,List.map_append,List.mem_append,List.mem_append]
  exact or_congr (hk n) (by simp)
theorem tComps_old (h:TabOK t) (hn:0 ≤ e.n ∧ e.n < 256) (hu:CsUp e.n l t.cs.length t.cs cs) {n:Int} (hne:n ≠ e.n):tComps (upT t k e cs) n = tComps t n:=by
 have hlen:=h.len
 have hl:=hu.len
 refine List.ext_getElem (by simp [tComps];omega) fun i h1 h2=>?_
 have hc:i < t.cs.length:=by simp [tComps] at h2;omega
 have hk:i < t.ks.length:=by omega
 rw [tComps_at h2 hk hc,tComps_at (t:=upT t k e cs) h1 hk (by show i < cs.length;omega)]
 show (⟨_,(stGet (cs[i]'(by omega)).2 n).getD []⟩:Comp) = _
 rw [hu.c i hc (by omega),if_pos hc,stPut_get (h.cs _ (List.getElem_mem hc)) hn,if_neg hne]
theorem tComps_new (h:TabOK t) (hn:0 ≤ e.n ∧ e.n < 256) (hks:t.ks = l.map (·.kind)) (hu:CsUp e.n l t.cs.length t.cs cs):tComps (upT t k e cs) e.n = l:=by
 have hlen:=h.len
 have hl:=hu.len
 have hkl:t.ks.length = l.length:=by rw [hks,List.length_map]
 refine List.ext_getElem (by simp [tComps];omega) fun i h1 h2=>?_
 have hc:i < t.cs.length:=by omega
 have hk:i < t.ks.length:=by omega
 rw [tComps_at (t:=upT t k e cs) h1 hk (by show i < cs.length;omega)]
 show (⟨t.ks[i],(stGet (cs[i]'(by omega)).2 e.n).getD []⟩:Comp) = _
 rw [hu.c i hc (by omega),if_pos hc,stPut_get (h.cs _ (List.getElem_mem hc)) hn,if_pos rfl,List.getElem?_eq_getElem h2]
 have:t.ks[i] = l[i].kind:=by simp [hks]
 rw [this]
 rfl
theorem tItems_up (h:TabOK t) (hn:0 ≤ e.n ∧ e.n < 256) (hf:e.n ∉ keysC t.es) (hks:t.ks = l.map (·.kind)) (hu:CsUp e.n l t.cs.length t.cs cs):tItems (upT t k e cs) = tItems t ++ [⟨e,l⟩]:=by
 unfold tItems
 show (stPut t.es e.n e).map _ = _
 rw [stPut_new hf,List.map_append,List.map_cons,List.map_nil,tComps_new h hn hks hu]
 congr 1
 refine List.map_congr_left fun p hp=>?_
 rw [tComps_old h hn hu]
 intro e2
 exact hf (by rw [← e2];exact List.mem_map.2 ⟨p,hp,rfl⟩)
end
theorem ArOK.up {a:Ar} {l1 l2:List Tab} {t:Tab} {e:Ent} {l:List Comp} {cs:List (StK × List (Int × List Int))} {k:StK} {K':AV → Value → Prop} {b:Nat} (h:ArOK a) (hts:a.ts = l1 ++ t :: l2) (hn:0 ≤ e.n ∧ e.n < 256) (hf:e.n ∉ tKeys a.ts) (hu:CsUp e.n l t.cs.length t.cs cs) (hK:∀ v u,a.K v u → K' v u) (hKt:K' (.ptr t.X 0 0) (.pointer (some ⟨b,0,none⟩))) :
  ArOK { a with ts:=l1 ++ upT t k e cs :: l2,K:=K',g:=updG a.g e.n (.pointer (some ⟨b,0,none⟩)),c:=a.c + 1 }:=by
 have htm:t ∈ a.ts:=by rw [hts];simp
 have hft:e.n ∉ keysC t.es:=fun hm=>hf (List.mem_flatMap.2 ⟨t,htm,hm⟩)
 have hmem:∀ u,u ∈ l1 ++ upT t k e cs :: l2 → u = upT t k e cs ∨ u ∈ a.ts:=fun u hu=>by
  rw [hts]
  rcases List.mem_append.1 hu with hu | hu
  ·exact .inr (by simp [hu])
  ·rcases List.mem_cons.1 hu with hu | hu
   ·exact .inl hu
   ·exact .inr (by simp [hu])
 have hke:keysC (stPut t.es e.n e) = keysC t.es ++ [e.n]:=by rw [stPut_new hft,keysC,List.map_append];rfl
 have hkeys:(tKeys (l1 ++ upT t k e cs :: l2)).Perm (e.n :: tKeys a.ts):=by
  rw [hts,tKeys_app,tKeys_cons,tKeys_app,tKeys_cons]
  show (tKeys l1 ++ (keysC (stPut t.es e.n e) ++ tKeys l2)).Perm _
  rw [hke,List.append_assoc]
  have:(tKeys l1 ++ (keysC t.es ++ ([e.n] ++ tKeys l2))).Perm ([e.n] ++ (tKeys l1 ++ (keysC t.es ++ tKeys l2))):=by
   refine ((perm_mid (keysC t.es) [e.n] (tKeys l2)).append_left (tKeys l1)).trans ?_
   exact perm_mid _ _ _
  exact this
 refine ⟨fun u hu'=>?_,?_,hkeys.nodup_iff.2 (List.nodup_cons.2 ⟨hf,h.keys⟩),fun u hu'=>?_,fun n u hg=>?_,fun n hn'=>?_,?_⟩
 ·rcases hmem u hu' with rfl | hu'
  ·exact (h.tab t htm).up hn hft hu
  ·exact h.tab u hu'
 ·have ho:=h.ord
  rw [hts] at ho
  rw [List.pairwise_append,List.pairwise_cons] at ho ⊢
  exact ⟨ho.1,⟨fun x hx=>ho.2.1.1 x hx,ho.2.1.2⟩,fun x hx y hy=>by
   rcases List.mem_cons.1 hy with rfl | hy
   ·exact ho.2.2 x hx t (by simp)
   ·exact ho.2.2 x hx y (by simp [hy])⟩
 ·rcases hmem u hu' with rfl | hu'
  ·intro p hp
   have hp:p ∈ stPut t.es e.n e:=hp
   rw [stPut_new hft] at hp
   rcases List.mem_append.1 hp with hp | hp
   ·exact h.ent t htm p hp
   ·rw [List.mem_singleton] at hp
    subst hp;rfl
  ·exact h.ent u hu'
 ·replace hg:(if n = e.n then some (Value.pointer (some ⟨b,0,none⟩)) else a.g n) = some u:=hg
  split at hg
  ·rename_i e1
   subst e1
   injection hg with hg
   subst hg
   refine ⟨upT t k e cs,by simp,?_,hKt,b,rfl⟩
   show e.n ∈ keysC (stPut t.es e.n e)
   rw [hke];simp
  ·obtain ⟨w,hw,h2,h3,h4⟩:=h.g n u hg
   rw [hts] at hw
   rcases List.mem_append.1 hw with hw | hw
   ·exact ⟨w,by simp [hw],h2,hK _ _ h3,h4⟩
   ·rcases List.mem_cons.1 hw with rfl | hw
    ·refine ⟨upT w k e cs,by simp,?_,hK _ _ h3,h4⟩
     show n ∈ keysC (stPut w.es e.n e)
     rw [hke];simp [h2]
    ·exact ⟨w,by simp [hw],h2,hK _ _ h3,h4⟩
 ·have hn':=hkeys.mem_iff.1 hn'
  show (updG a.g e.n _ n).isSome = true
  unfold updG
  split
  ·rfl
  ·rename_i hne
   rcases List.mem_cons.1 hn' with e2 | hn'
   ·exact absurd e2 hne
   ·exact h.gn n hn'
 ·show a.c + 1 = _
  rw [hkeys.length_eq,List.length_cons,h.cnt]
theorem items_up {l1 l2:List Tab} {t:Tab} {e:Ent} {l:List Comp} {cs:List (StK × List (Int × List Int))} {k:StK} (h:TabOK t) (hn:0 ≤ e.n ∧ e.n < 256) (hf:e.n ∉ keysC t.es) (hks:t.ks = l.map (·.kind)) (hu:CsUp e.n l t.cs.length t.cs cs):(arItems (l1 ++ upT t k e cs :: l2)).Perm (⟨e,l⟩ :: arItems (l1 ++ t :: l2)):=by
 rw [arItems_app,arItems_cons,arItems_app,arItems_cons,tItems_up h hn hf hks hu,List.append_assoc]
 have:(arItems l1 ++ (tItems t ++ ([(⟨e,l⟩:Item)] ++ arItems l2))).Perm ([(⟨e,l⟩:Item)] ++ (arItems l1 ++ (tItems t ++ arItems l2))):=by
  refine ((perm_mid (tItems t) [(⟨e,l⟩:Item)] (arItems l2)).append_left (arItems l1)).trans ?_
  exact perm_mid _ _ _
 exact this
theorem ne_up {l1 l2:List Tab} {t:Tab} {e:Ent} {cs:List (StK × List (Int × List Int))} {k:StK} (h1:ArNE l1) (h2:ArNE l2) (hf:e.n ∉ keysC t.es):ArNE (l1 ++ upT t k e cs :: l2):=fun u hu=>by
 rcases List.mem_append.1 hu with hu | hu
 ·exact h1 u hu
 ·rcases List.mem_cons.1 hu with rfl | hu
  ·show stPut t.es e.n e ≠ []
   rw [stPut_new hf];simp
  ·exact h2 u hu
end
set_option maxHeartbeats 1000000 in
theorem insertQ_sp (X V n i:Nat) (l:List AV) (e:AV) (hn:n = l.length) (hi:i ≤ n) (hb:(n + 1) * 8 ≤ 140737488355328) (hfr:FreeL l) (hfe:FreeE e) (hw:∀ x ∈ l,x.width = 1) (hwe:e.width = 1) (hze:AV.frzs [e] = [e]) :
  Spec Try.prog 66 [.sl X 0 n,iA i,.sl V 0 1] [(X,.row 90 1 l),(V,.row 90 1 [e])] fun r S'=>r = .lst true 90 1 (l.take i ++ e :: l.drop i) ∧ S' = []:=by
 refine Spec.of (nt:=95) (res:=[.tmp 6]) Try.func66 rfl (by kernel_rfl) rfl rfl rfl fun Sf=>?_
 have hfV:FreeL [e]:=fun x hx=>by rw [List.mem_singleton.1 hx];exact hfe
 have hwV:∀ x ∈ [e],x.width = 1:=fun x hx=>by rw [List.mem_singleton.1 hx];exact hwe
 (repeat refine WF ?_);refine AWP.region ?_;(repeat (first | refine WO ?_ | refine All.i fun X=>?_ | refine AllY.i fun Y=>?_));refine AOps.nil ?_;(repeat refine WN ?_)
 (repeat refine WF ?_);refine AWP.region ?_;(repeat (first | (refine AOps.gN ?_;first | refine AOps.p (W.slice_lo rfl rfl (by exact At.f) rfl (by omega)) rfl ?_) | refine WO ?_ | refine All.i fun X=>?_ | refine AllY.i fun Y=>?_));refine AOps.nil ?_;(repeat refine WN ?_)
 (repeat refine WF ?_);refine AWP.region ?_;(repeat (first | refine WO ?_ | refine All.i fun X=>?_ | refine AllY.i fun Y=>?_));refine AOps.nil ?_;(repeat refine WN ?_)
 (repeat refine WF ?_);refine AWP.region ?_;(repeat (first | refine WO ?_ | refine All.i fun X=>?_ | refine AllY.i fun Y=>?_));refine AOps.nil ?_;(repeat refine WN ?_)
 refine AWP.cond_f rfl rfl ?_
 (repeat refine WF ?_);refine AWP.region ?_;(repeat (first | refine WO ?_ | refine All.i fun X=>?_ | refine AllY.i fun Y=>?_));refine AOps.nil ?_;(repeat refine WN ?_)
 (repeat refine WF ?_);refine AWP.region ?_;(repeat (first | refine WO ?_ | refine All.i fun X=>?_ | refine AllY.i fun Y=>?_));refine AOps.nil ?_;(repeat refine WN ?_)
 by_cases hin:i = n
 ·refine AWP.cond_t rfl (decide_eq_true (by omega)) ?_
  refine AWP.iceL 2 [e] hze ?_
  have hbb:(n + [e].length) * 8 ≤ 140737488355328:=hb
  (repeat (first | refine WK ?_ | refine All.i fun X=>?_ | refine AllY.i fun Y=>?_))
  (refine AWP.ret ?_;(repeat (first | refine inB_r ?_ | refine andThen_r ?_));refine retQ_r ?_)
  have hm:n + [e].length = (l ++ [e]).length:=by rw [List.length_append,hn]
  have hr:l ++ [e] = l.take i ++ e :: l.drop i:=by rw [hin,hn,List.take_length,List.drop_length]
  rw [← hr]
  exact ⟨[.sl Y 0 (n + [e].length)],[.lst true 90 1 (l ++ [e])],_,[],.cons (.tmp rfl) rfl .nil,.cons (.cell (.sl (p:=0) .here hm)) .nil,by exact Sub.f,rfl,rfl⟩
 ·refine AWP.cond_f rfl (decide_eq_false (by omega)) ?_
  refine AWP.cap X fun Z c u0 hc hnc=>?_
  (repeat refine WF ?_);refine AWP.region ?_;(repeat (first | (refine AOps.gN ?_;first | refine AOps.p (W.cap hc rfl (by exact At.f) (by exact At.f)) rfl ?_) | refine WO ?_ | refine All.i fun X=>?_ | refine AllY.i fun Y=>?_));refine AOps.nil ?_;(repeat refine WN ?_)
  refine AWP.cond rfl (fun hg=>?_) (fun hg=>?_)
  ·have hcn:c < n + 1:=by rw [decide_eq_true_eq] at hg;omega
   refine AWP.rs fun Y=>?_
   (repeat refine WF ?_);refine AWP.region ?_;(repeat (first | (refine AOps.gN ?_;first | refine AOps.p (W.hi (a:=i) rfl rfl (by exact At.f) rfl hi) rfl ?_ | refine AOps.p (W.subE ((n + 1 - i:Nat):Int) (by omega) (by omega) rfl rfl) rfl ?_ | refine AOps.s (W.appzG (n + 1 - i) hc rfl rfl (by exact At.f) (by exact At.f) (by exact At.f) rfl (by exact .inr rfl) (by rfl) (by kernel_rfl) (by omega) (by omega) (by decide) (by omega) (by omega) hfr) rfl ?_) | refine WO ?_ | refine All.i fun X=>?_ | refine AllY.i fun Y=>?_))
   have hsum:i + (n + 1 - i) = n + 1:=by omega
   obtain ⟨l1,hl1⟩:∃ l1,l.take i ++ List.replicate (n + 1 - i) (zAV [.pointer none] false) = l1:=⟨_,rfl⟩
   have hti:(l.take i).length = i:=by rw [List.length_take];omega
   have hl1n:l1.length = n + 1:=by rw [← hl1,List.length_append,hti,List.length_replicate,hsum]
   have hfr1:FreeL l1:=fun x hx=>by
    rw [← hl1] at hx
    rcases List.mem_append.1 hx with hx | hx
    ·exact hfr x (List.mem_of_mem_take hx)
    ·rw [List.eq_of_mem_replicate hx]
     exact FreeE.prim _
   have htk:l1.take i = l.take i:=by rw [← hl1,List.take_left' hti]
   rw [hl1,hsum]
   (repeat first | refine AOps.nil ?_ | refine WF ?_)
   (repeat refine WF ?_);refine AWP.region ?_;(repeat (first | (refine AOps.gN ?_;first | refine AOps.p (W.slice_lo rfl rfl (by exact At.f) rfl (by omega)) rfl ?_ | refine AOps.s (W.copyO 1 rfl rfl (by exact At.f) (by exact At.f) (by rfl) (by omega) (by omega) (by omega) (by omega) (by exact Nat.le_refl _) hfr1 hfV hwV) rfl ?_) | refine WO ?_ | refine All.i fun X=>?_ | refine AllY.i fun Y=>?_))
   obtain ⟨l2,hl2⟩:∃ l2,l1.take (0 + i) ++ ([e].drop 0).take 1 ++ l1.drop (0 + i + 1) = l2:=⟨_,rfl⟩
   rw [hl2]
   have hl2n:l2.length = n + 1:=by rw [← hl2];simp only [List.length_append,List.length_take,List.length_drop,List.length_singleton];omega
   have hfr2:FreeL l2:=fun x hx=>by
    rw [← hl2] at hx
    rcases List.mem_append.1 hx with hx | hx
    ·rcases List.mem_append.1 hx with hx | hx
     ·exact hfr1 x (List.mem_of_mem_take hx)
     ·exact hfV x (List.mem_of_mem_drop (List.mem_of_mem_take hx))
    ·exact hfr1 x (List.mem_of_mem_drop hx)
   have htk2:l2.take (0 + (i + 1)) = l.take i ++ [e]:=by
    rw [← hl2,Nat.zero_add,Nat.zero_add,htk]
    exact List.take_left' (by simp [hti])
   (repeat first | refine AOps.nil ?_ | refine WF ?_)
   (repeat refine WF ?_);refine AWP.region_run (by kernel_rfl) (by kernel_rfl) ?_;(repeat (first | (refine RGo.gN ?_;first | refine RGo.go (h:=W.addE ((i + 1:Nat):Int) (by omega) (by omega) rfl rfl) (k:=?_) | refine RGo.go (h:=W.slice_lo rfl rfl (by exact At.f) rfl (by omega)) (k:=?_) | refine RGo.goS (h:=W.copyO (n - i) rfl rfl (by exact At.f) (by exact At.f) (by rfl) (by omega) (by omega) (by omega) (by omega) (by omega) hfr2 hfr hw) (k:=?_)) | (refine RGo.gQ ?_;first | refine RGo.go (h:=W.addE ((i + 1:Nat):Int) (by omega) (by omega) rfl rfl) (k:=?_) | refine RGo.go (h:=W.slice_lo rfl rfl (by exact At.f) rfl (by omega)) (k:=?_) | refine RGo.goS (h:=W.copyO (n - i) rfl rfl (by exact At.f) (by exact At.f) (by rfl) (by omega) (by omega) (by omega) (by omega) (by omega) hfr2 hfr hw) (k:=?_)) | refine RK ?_ | refine RGo.nil (by kernel_rfl) ?_))
   obtain ⟨l3,hl3⟩:∃ l3,l2.take (0 + (i + 1)) ++ (l.drop (0 + i)).take (n - i) ++ l2.drop (0 + (i + 1) + (n - i)) = l3:=⟨_,rfl⟩
   rw [hl3]
   have hr:l3 = l.take i ++ e :: l.drop i:=by
    have e1:l2.drop (0 + (i + 1) + (n - i)) = []:=List.drop_of_length_le (by omega)
    have e2:(l.drop (0 + i)).take (n - i) = l.drop i:=by rw [Nat.zero_add];exact List.take_of_length_le (by rw [List.length_drop];omega)
    rw [← hl3,htk2,e1,e2,List.append_nil,List.append_assoc];rfl
   have hm:n + 1 = l3.length:=by
    rw [hr];simp only [List.length_append,List.length_cons,List.length_drop,hti];omega
   (repeat (first | refine WK ?_ | refine All.i fun X=>?_ | refine AllY.i fun Y=>?_))
   (refine AWP.ret ?_;(repeat (first | refine inB_r ?_ | refine andThen_r ?_));refine retQ_r ?_)
   rw [← hr]
   exact ⟨[.sl Y 0 (n + 1)],[.lst true 90 1 l3],_,[],.cons (.tmp rfl) rfl .nil,.cons (.cell (.sl (p:=0) .here hm)) .nil,by exact Sub.f,rfl,rfl⟩
  ·have hcn:n + 1 ≤ c:=by rw [decide_eq_false_iff_not] at hg;omega
   (repeat refine WF ?_);refine AWP.region ?_;(repeat (first | (refine AOps.gN ?_;first | refine AOps.p (W.sliceC (n + 1) hc rfl rfl (by exact At.f) (by exact At.f) (by omega) hcn) rfl ?_) | refine WO ?_ | refine All.i fun X=>?_ | refine AllY.i fun Y=>?_));refine AOps.nil ?_;(repeat refine WN ?_)
   (repeat refine WF ?_);refine AWP.region ?_;(repeat (first | (refine AOps.gN ?_;first | refine AOps.p (W.addE ((i + 1:Nat):Int) (by omega) (by omega) rfl rfl) rfl ?_ | refine AOps.p (W.slice_lo rfl rfl (by exact At.f) rfl (by omega)) rfl ?_) | refine WO ?_ | refine All.i fun X=>?_ | refine AllY.i fun Y=>?_))
   refine AOps.p (W.over (t:=83) (tR:=4) Try.func96 (by kernel_rfl) (by kernel_rfl) (by kernel_rfl) (by kernel_rfl) rfl rfl (by exact At.f) (by exact At.f) (by rfl) (by decide) (by omega) (by omega)) rfl ?_
   (repeat (first | refine WO ?_ | refine All.i fun X=>?_ | refine AllY.i fun Y=>?_))
   (repeat first | refine AOps.nil ?_ | refine WF ?_)
   refine AWP.cond_t rfl rfl ?_
   (repeat refine WF ?_);refine AWP.region_run (by kernel_rfl) (by kernel_rfl) ?_;(repeat (first | (refine RGo.gN ?_;first | refine RGo.go (h:=W.addE ((i + 1:Nat):Int) (by omega) (by omega) rfl rfl) (k:=?_) | refine RGo.go (h:=W.slice_lo rfl rfl (by exact At.f) rfl (by omega)) (k:=?_) | refine RGo.goS (h:=W.copyS (n - i) rfl rfl (by exact At.f) (by omega) (by omega) (by omega) (by omega) (by omega) hfr hw) (k:=?_)) | (refine RGo.gQ ?_;first | refine RGo.go (h:=W.addE ((i + 1:Nat):Int) (by omega) (by omega) rfl rfl) (k:=?_) | refine RGo.go (h:=W.slice_lo rfl rfl (by exact At.f) rfl (by omega)) (k:=?_) | refine RGo.goS (h:=W.copyS (n - i) rfl rfl (by exact At.f) (by omega) (by omega) (by omega) (by omega) (by omega) hfr hw) (k:=?_)) | refine RK ?_ | refine RGo.nil (by kernel_rfl) ?_))
   have hti:(l.take i).length = i:=by rw [List.length_take];omega
   obtain ⟨l1,hl1⟩:∃ l1,l.take (0 + (i + 1)) ++ (l.drop (0 + i)).take (n - i) ++ l.drop (0 + (i + 1) + (n - i)) = l1:=⟨_,rfl⟩
   rw [hl1]
   have hti1:(l.take (i + 1)).length = i + 1:=by rw [List.length_take];omega
   have hl1e:l1 = l.take (i + 1) ++ l.drop i:=by
    have e1:l.drop (0 + (i + 1) + (n - i)) = []:=List.drop_of_length_le (by omega)
    have e2:(l.drop (0 + i)).take (n - i) = l.drop i:=by rw [Nat.zero_add];exact List.take_of_length_le (by rw [List.length_drop];omega)
    rw [← hl1,e1,e2,List.append_nil,Nat.zero_add]
   have hfr1:FreeL l1:=fun x hx=>by
    rw [hl1e] at hx
    rcases List.mem_append.1 hx with hx | hx
    ·exact hfr x (List.mem_of_mem_take hx)
    ·exact hfr x (List.mem_of_mem_drop hx)
   have hl1n:l1.length = n + 1:=by rw [hl1e,List.length_append,hti1,List.length_drop];omega
   have htk:l1.take i = l.take i:=by rw [hl1e,List.take_append_of_le_length (by omega),List.take_take,Nat.min_eq_left (by omega)]
   have hdr:l1.drop (i + 1) = l.drop i:=by rw [hl1e,List.drop_left' hti1]
   (repeat refine WF ?_);refine AWP.region ?_;(repeat (first | (refine AOps.gN ?_;first | refine AOps.p (W.slice_lo rfl rfl (by exact At.f) rfl (by omega)) rfl ?_ | refine AOps.s (W.copyO 1 rfl rfl (by exact At.f) (by exact At.f) (by rfl) (by omega) (by omega) (by omega) (by omega) (by exact Nat.le_refl _) hfr1 hfV hwV) rfl ?_) | refine WO ?_ | refine All.i fun X=>?_ | refine AllY.i fun Y=>?_))
   obtain ⟨l2,hl2⟩:∃ l2,l1.take (0 + i) ++ ([e].drop 0).take 1 ++ l1.drop (0 + i + 1) = l2:=⟨_,rfl⟩
   rw [hl2]
   have hr:l2 = l.take i ++ e :: l.drop i:=by
    rw [← hl2,Nat.zero_add,htk,hdr,List.append_assoc];rfl
   have hm:n + 1 = l2.length:=by
    rw [hr];simp only [List.length_append,List.length_cons,List.length_drop,hti];omega
   (repeat first | refine AOps.nil ?_ | refine WF ?_)
   (repeat (first | refine WK ?_ | refine All.i fun X=>?_ | refine AllY.i fun Y=>?_))
   (refine AWP.ret ?_;(repeat (first | refine inB_r ?_ | refine andThen_r ?_));refine retQ_r ?_)
   rw [← hr]
   exact ⟨[.sl X 0 (n + 1)],[.lst true 90 1 l2],_,[],.cons (.tmp rfl) rfl .nil,.cons (.cell (.sl (p:=1) (.next .here) hm)) .nil,by exact Sub.f,rfl,rfl⟩
instance mapIT:TMap Try.prog 82 3 90 (.pointer none):=⟨by kernel_rfl,by kernel_rfl,fun w=>by kernel_rfl,PlainV.nil (te:=96) (by kernel_rfl)⟩
theorem ptr_free (x:Nat):FreeE (.ptr x 0 0):=fun m c bs k=>by
 simp only [VC] at k
 exact k.1
theorem perm_ins (A B1 B2 C Z:List Slot):(A ++ (B1 ++ (B2 ++ (C ++ Z)))).Perm (B1 ++ (B2 ++ ((C ++ (A ++ [])) ++ Z))):=by
 rw [List.append_nil]
 have:=perm_mid A (B1 ++ (B2 ++ C)) Z
 simpa [List.append_assoc] using this
theorem Spec.tt {P:Program} {f:FuncId} {args:List AV} {S:List Slot} {β:Type} {r:β → AV} {So:β → List Slot} (h:Spec P f args S fun r' S'=>∃ q,r' = r q ∧ S' = So q):Spec P f args S fun r' S'=>∃ q,(fun _:β=>True) q ∧ r' = r q ∧ S' = So q:=h.mono fun r' S' ⟨q,h⟩=>⟨q,trivial,h⟩
theorem tabsS_mem {ts:List Tab} {t:Tab} (h:t ∈ ts):∃ R,(tabsS ts).Perm ([tabH t] ++ R):=by
 obtain ⟨l1,l2,rfl⟩:=List.append_of_mem h
 refine ⟨(stE t.ek t.es ++ colsS t.cs) ++ (tabsS l1 ++ tabsS l2),?_⟩
 have:=tabs_open (l1:=l1) (l2:=l2) (t:=t) []
 simp only [List.append_nil] at this
 exact this
theorem add1_all (ts:List Tab) (t:Tab) (ht:t ∈ ts) (ks:List Int) (hl:t.ks.length ≤ 1099511627776):Spec Try.prog 62 [.ptr t.X 0 0,intsA false ks] (tabsS ts) fun r S'=>r = iA (cmpL t.ks ks) ∧ S' = tabsS ts:=by
 obtain ⟨R,hp⟩:=tabsS_mem ht
 refine Spec.perm ((add1_sp t ks hl).beside R) hp fun r S' hq=>?_
 obtain ⟨S1,e1,e2,e3⟩:=hq
 refine ⟨tabsS ts,?_,e2,rfl⟩
 rw [e1,e3]
 exact hp.symm
set_option maxRecDepth 8000 in
set_option maxHeartbeats 4000000 in
theorem add_sp (a:Ar) (e:Ent) (l:List Comp) (ha:ArOK a) (hne:ArNE a.ts) (hn:0 ≤ e.n ∧ e.n < 256) (hf:e.n ∉ tKeys a.ts) (hl:l.length ≤ 16) :
  Spec Try.prog 38 [.ptr a.A 0 0,entA e,compsA false false l] (arS a) fun r S'=>∃ b:Ar,(ArOK b ∧ ArNE b.ts ∧ b.A = a.A ∧ b.kinds = a.kinds ∧ b.gens = a.gens ∧ (arItems b.ts).Perm (⟨e,l⟩ :: arItems a.ts)) ∧ r = .tup [] ∧ S' = arS b:=by
 obtain ⟨ks,hks⟩:∃ ks,l.map (·.kind) = ks:=⟨_,rfl⟩
 have hkl:ks.length = l.length:=by rw [← hks,List.length_map]
 have hkm:(ks.map iA).length = ks.length:=List.length_map _
 have hko:=kindsOf_ps l (by omega)
 rw [hks] at hko
 have htl:=ha.ts_le hne
 have hsr:=searchQ_sp a.Tb a.ts Tab.X (tabsS a.ts) ks 62 (fun t:Tab=>cmpL t.ks ks) (by omega) (fun t ht=>add1_all a.ts t ht ks (by have:=(ha.tab t ht).ks;omega))
 refine Spec.of (nt:=98) (res:=[]) Try.func38 rfl (by kernel_rfl) rfl rfl rfl fun Sf=>?_
 (repeat refine WF ?_);refine AWP.region ?_;(repeat (first | refine WO ?_ | refine All.i fun B=>?_ | refine AllY.i fun Y=>?_));refine AOps.nil ?_;(repeat refine WN ?_)
 (repeat first | refine AOps.nil ?_ | refine WF ?_)
 (repeat refine WF ?_);refine AWP.region ?_;(repeat (first | (refine AOps.gN ?_;first | (refine AOps.g_callf ?_;first | refine AOps.c1 (h:=(hko ..)) (k:=?_))) | refine WO ?_ | refine All.i fun X=>?_ | refine AllY.i fun Y=>?_));refine AOps.nil ?_;(repeat refine WN ?_)
 (repeat first | refine AOps.nil ?_ | refine WF ?_)
 (repeat refine WF ?_);refine AWP.region ?_;(repeat (first | (refine AOps.gN ?_;first | refine AOps.p3 [_,_,_,_,_] (h:=hsr) fun b hb=>?_) | refine WO ?_ | refine All.i fun X=>?_ | refine AllY.i fun Y=>?_))
 obtain ⟨i,fd⟩:=b
 dsimp only
 (repeat (first | refine WO ?_ | refine All.i fun X=>?_ | refine AllY.i fun Y=>?_))
 refine AOps.nil ?_
 (repeat first | refine AOps.nil ?_ | refine WF ?_)
 (repeat refine WF ?_);refine AWP.region ?_;(repeat (first | refine WO ?_ | refine All.i fun X=>?_ | refine AllY.i fun Y=>?_));refine AOps.nil ?_;(repeat refine WN ?_)
 (repeat first | refine AOps.nil ?_ | refine WF ?_)
 refine AWP.joinR (fun z:Ar × List Tab × Tab × List Tab=>ArOK z.1 ∧ z.1.ts = z.2.1 ++ z.2.2.1 :: z.2.2.2 ∧ z.2.2.1.ks = ks ∧ ArNE z.2.1 ∧ ArNE z.2.2.2 ∧ z.2.1.length = i ∧ z.1.A = a.A ∧ z.1.kinds = a.kinds ∧ z.1.gens = a.gens ∧ tKeys z.1.ts = tKeys a.ts ∧ arItems z.1.ts = arItems a.ts) (fun z=>⟨[(0,.ptr a.A 0 0),(2,compsA false false l),(4,.ptr B 0 0),(7,iA i)],(B,.row 52 2 [entA e]) :: (arS z.1 ++ Sf)⟩) ?_ ?_
 ·cases fd with
  | true =>
   refine AWP.cond_f rfl rfl ?_
   obtain ⟨t,ht,hz⟩:=hb.eq.1 rfl
   obtain ⟨hi,rfl⟩:=List.getElem?_eq_some_iff.1 ht
   obtain ⟨l1,l2,e1,e2⟩:=splitL_at hi
   have h1:ArNE l1:=fun u hu=>hne u (by rw [e1];simp [hu])
   have h2:ArNE l2:=fun u hu=>hne u (by rw [e1];simp [hu])
   (repeat (first | refine WK ?_ | refine All.i fun X=>?_ | refine AllY.i fun Y=>?_))
   refine jnR (a,l1,a.ts[i],l2) ⟨ha,e1,cmpL_zero.1 hz,h1,h2,e2,rfl,rfl,rfl,rfl,rfl⟩ ⟨by exact Lk.f,?_⟩
   simp only [arS,List.cons_append,List.nil_append]
   exact List.Sublist.refl _
  | false =>
   refine AWP.cond_t rfl rfl ?_
   (repeat first | refine AOps.nil ?_ | refine WF ?_)
   (repeat refine WF ?_);refine AWP.region ?_;(repeat (first | (refine AOps.gN ?_;first | refine AOps.p0 (C:=fun _=>True) [] (h:=newE_sp.mono fun r' S' ⟨k,e1,e2⟩=>⟨k,trivial,e1,e2⟩) fun ek _=>?_) | refine WO ?_ | refine All.i fun X=>?_ | refine AllY.i fun Y=>?_))
   refine AOps.nil ?_
   (repeat first | refine AOps.nil ?_ | refine WF ?_)
   refine AWP.adoptIn (Y:=X) 126 1 .here (fun C=>.cons (.agg (.cons .same (.cons .same (.cons (.base .nil) .nil)))) .nil) fun C=>?_
   (repeat refine WF ?_);refine AWP.region ?_;(repeat (first | refine WO ?_ | refine All.i fun X=>?_ | refine AllY.i fun Y=>?_));refine AOps.nil ?_;(repeat refine WN ?_)
   (repeat first | refine AOps.nil ?_ | refine WF ?_)
   refine AWP.front ek.M ?_;refine AWP.front ek.R ?_;refine AWP.front ek.V ?_;refine AWP.front ek.X ?_;refine AWP.front B ?_;refine AWP.front X ?_;refine AWP.front C ?_
   refine AWP.lp3 (fun (j C:Nat) (cs:List (StK × List (Int × List Int)))=>⟨[(0,.ptr a.A 0 0),(2,compsA false false l),(4,.ptr B 0 0),(6,intsA false ks),(7,iA i),(9,.ptr X 0 0),(31,iA (ks.map iA).length),(32,iA j)],(C,.row 126 1 (cs.map fun c=>.ptr c.1.X 0 0)) :: (X,.row 96 3 [.agg [intsA false ks,.ptr ek.X 0 0,.sl C 0 cs.length]]) :: (B,.row 52 2 [entA e]) :: (stE ek [] ++ (arH a ++ (colsS cs ++ (tabsS a.ts ++ Sf))))⟩) (fun j C cs=>j ≤ ks.length ∧ cs.length = j ∧ ∀ c ∈ cs,c.2 = []) (fun j _ _=>ks.length - j) 0 C [] ⟨by omega,rfl,by simp⟩ ?_
   rintro j C cs ⟨hj,hcl,hce⟩
   have hpl:(cs.map fun c=>AV.ptr c.1.X 0 0).length = cs.length:=List.length_map _
   (repeat refine WF ?_);refine AWP.region ?_;(repeat (first | refine WO ?_ | refine All.i fun X=>?_ | refine AllY.i fun Y=>?_));refine AOps.nil ?_;(repeat refine WN ?_)
   (repeat first | refine AOps.nil ?_ | refine WF ?_)
   refine AWP.cond rfl (fun h=>?_) (fun h=>?_)
   ·have h:j < ks.length:=by rw [decide_eq_true_eq,hkm] at h;omega
    (repeat first | refine AOps.nil ?_ | refine WF ?_)
    refine AWP.rs fun Y1=>AWP.rs fun Y2=>AWP.rs fun Y3=>AWP.rs fun Y4=>AWP.rs fun Y5=>?_
    (repeat refine WF ?_);refine AWP.region_runE (by kernel_rfl) (by kernel_rfl) ?_;(repeat refine RGoE.go ?_)
    refine RGoE.n0 Y1 Y2 Y3 Y4 ⟨0,0,0,0⟩ newS_sp fun k=>?_
    (repeat (first | (refine RGo.gN ?_;first | (refine RGo.g_lit ?_;refine RGo.goL (AV.ptr k.X 0 0) ?_)) | (refine RGo.gQ ?_;first | (refine RGo.g_lit ?_;refine RGo.goL (AV.ptr k.X 0 0) ?_)) | refine RK ?_ | refine RGo.nil (by kernel_rfl) ?_))
    have hma:(cs.map fun c=>AV.ptr c.1.X 0 0) ++ [AV.ptr k.X 0 0] = (cs ++ [(k,([]:List (Int × List Int)))]).map fun c=>AV.ptr c.1.X 0 0:=by rw [List.map_append];rfl
    have hml:cs.length + [AV.ptr k.X 0 0].length = (cs ++ [(k,([]:List (Int × List Int)))]).length:=by rw [List.length_append];rfl
    rw [hma,hml]
    (repeat first | refine AOps.nil ?_ | refine WF ?_)
    refine AWP.front k.M ?_;refine AWP.front k.R ?_;refine AWP.front k.V ?_;refine AWP.front k.X ?_;refine AWP.front B ?_;refine AWP.front C ?_;refine AWP.front X ?_;refine AWP.front Y5 ?_
    refine AWP.perm (S':=(Y5,.row 126 1 ((cs ++ [(k,([]:List (Int × List Int)))]).map fun c=>AV.ptr c.1.X 0 0)) :: (X,.row 96 3 [.agg [intsA false ks,.ptr ek.X 0 0,.sl Y5 0 (cs ++ [(k,([]:List (Int × List Int)))]).length]]) :: (C,.used) :: (B,.row 52 2 [entA e]) :: (stE ek [] ++ (arH a ++ (colsS (cs ++ [(k,([]:List (Int × List Int)))]) ++ (tabsS a.ts ++ Sf))))) ?_ ?_
    ·refine List.Perm.cons _ (List.Perm.cons _ (List.Perm.cons _ (List.Perm.cons _ ?_)))
     rw [colsS_app,colsS_cons]
     exact perm_ins (stS k []) (stE ek []) (arH a) (colsS cs) (tabsS a.ts ++ Sf)
    ·(repeat refine WF ?_);refine AWP.region ?_;(repeat (first | refine WO ?_ | refine All.i fun X=>?_ | refine AllY.i fun Y=>?_));refine AOps.nil ?_;(repeat refine WN ?_)
     exact lp_next3 (j + 1) Y5 (cs ++ [(k,[])]) ⟨by omega,by rw [List.length_append,hcl];rfl,fun c hc=>by
      rcases List.mem_append.1 hc with hc | hc
      ·exact hce c hc
      ·rw [List.mem_singleton] at hc;subst hc;rfl⟩ (by omega)
   ·have h:j = ks.length:=by rw [decide_eq_false_iff_not,hkm] at h;omega
    have hF:AV.frzs (((cs.map fun c=>AV.ptr c.1.X 0 0).drop 0).take cs.length) = cs.map fun c=>AV.ptr c.1.X 0 0:=by
     rw [List.drop_zero,List.take_of_length_le (by omega),frzs_map,List.map_map];rfl
    (repeat first | refine AOps.nil ?_ | refine WF ?_)
    refine AWP.iceIn (X:=C) (Y:=X) .here (.next .here) rfl (.cons (.agg (.cons .same (.cons .same (.cons (.base (.sl (by omega))) .nil)))) .nil) ?_
    rw [hF]
    have hi:=hb.le
    dsimp only at hi
    have hpt:(ptrs Tab.X a.ts).length = a.ts.length:=List.length_map _
    refine AWP.rs fun Y=>AWP.rs fun K2=>?_
    (repeat refine WF ?_);refine AWP.region ?_;(repeat (first | (refine AOps.gN ?_;first | refine AOps.s (W.lit1 (X:=K2) (l:=[.ptr X 0 0]) (by exact rfl) (by exact At.f) (by exact rfl) (by exact .inr rfl) (by decide) (by decide) (by exact rfl)) rfl ?_) | refine WO ?_ | refine All.i fun X=>?_ | refine AllY.i fun Y=>?_))
    have hfq:FreeL (ptrs Tab.X a.ts):=fun x hx=>by obtain ⟨y,_,rfl⟩:=List.mem_map.1 hx;exact ptr_free _
    have hwq:∀ x ∈ ptrs Tab.X a.ts,x.width = 1:=fun x hx=>by obtain ⟨y,_,rfl⟩:=List.mem_map.1 hx;rfl
    have hins:=(insertQ_sp a.Tb K2 a.ts.length i (ptrs Tab.X a.ts) (.ptr X 0 0) hpt.symm hi (by omega) hfq (ptr_free _) hwq rfl rfl).used2
    refine AOps.z3 (h:=hins) (hT:=.ls (Y:=Y)) (k:=?_)
    (repeat (first | refine WO ?_ | refine All.i fun X=>?_ | refine AllY.i fun Y=>?_))
    obtain ⟨t',ht'⟩:∃ t':Tab,t' = ⟨X,ks,ek,[],cs⟩:=⟨_,rfl⟩
    have hrow:(ptrs Tab.X a.ts).take i ++ .ptr X 0 0 :: (ptrs Tab.X a.ts).drop i = ptrs Tab.X (a.ts.take i ++ t' :: a.ts.drop i):=by
     rw [ptrs,ptrs,List.map_append,List.map_take,List.map_cons,List.map_drop,ht']
    have hrl:(ptrs Tab.X (a.ts.take i ++ t' :: a.ts.drop i)).length = (a.ts.take i ++ t' :: a.ts.drop i).length:=List.length_map _
    rw [hrow,hrl]
    dsimp only [setAll,List.set_cons_zero,List.set_cons_succ,List.cons_append,List.nil_append]
    refine AOps.front ek.M ?_;refine AOps.front ek.R ?_;refine AOps.front ek.V ?_;refine AOps.front ek.X ?_;refine AOps.front X ?_;refine AOps.front Y ?_;refine AOps.front a.Tv ?_;refine AOps.front a.O ?_;refine AOps.front a.G ?_;refine AOps.front a.A ?_;refine AOps.front B ?_;refine AOps.front a.Tb ?_;refine AOps.front C ?_;refine AOps.front K2 ?_
    obtain ⟨a',ha'⟩:∃ a':Ar,a' = { a with Tb:=Y,ts:=a.ts.take i ++ t' :: a.ts.drop i }:=⟨_,rfl⟩
    have htok:TabOK t':=by
     rw [ht']
     exact ⟨by dsimp only;omega,by dsimp only;omega,⟨List.nodup_nil,by simp⟩,fun c hc=>by rw [hce c hc];exact ⟨List.nodup_nil,by simp⟩,fun c hc n=>by rw [hce c hc];exact Iff.rfl⟩
    have hte:t'.es = []:=by rw [ht']
    have htk:t'.ks = ks:=by rw [ht']
    have hb':Found (fun u:Tab=>cmpL u.ks t'.ks) a.ts (i,false):=by rw [htk];exact hb
    have hok:ArOK a':=by rw [ha'];exact ha.newT htok hte hb'
    refine AOps.perm (S':=(K2,.used) :: (C,.used) :: (a.Tb,.used) :: (B,.row 52 2 [entA e]) :: (arS a' ++ Sf)) ?_ ?_
    ·refine List.Perm.cons _ (List.Perm.cons _ (List.Perm.cons _ (List.Perm.cons _ ?_)))
     subst ha'
     refine List.Perm.cons _ (List.Perm.cons _ (List.Perm.cons _ (List.Perm.cons _ (List.Perm.cons _ ?_))))
     have hz:=tabs_open (l1:=a.ts.take i) (l2:=a.ts.drop i) (t:=t') Sf
     have hz2:tabsS (a.ts.take i) ++ (tabsS (a.ts.drop i) ++ Sf) = tabsS a.ts ++ Sf:=by rw [← List.append_assoc,← tabsS_app,List.take_append_drop]
     rw [hz2] at hz
     subst ht'
     exact hz.symm
    ·refine AOps.nil ?_
     (repeat first | refine AOps.nil ?_ | refine WF ?_)
     subst ha'
     refine jnR ({ a with Tb:=Y,ts:=a.ts.take i ++ t' :: a.ts.drop i },a.ts.take i,t',a.ts.drop i) ⟨hok,rfl,htk,fun u hu=>hne u (List.mem_of_mem_take hu),fun u hu=>hne u (List.mem_of_mem_drop hu),by rw [List.length_take];omega,rfl,rfl,rfl,keys_newT hte,items_newT hte⟩ ⟨by exact Lk.f,?_⟩
     exact .cons _ (.cons _ (.cons _ (.refl _)))
 ·rintro ⟨a',l1,t,l2⟩ ⟨hok,hts,htk,hn1,hn2,hil,hA,hki,hge,hke,hit⟩
  dsimp only at hok hts htk hn1 hn2 hil hA hki hge hke hit ⊢
  rw [← hA]
  obtain ⟨Z,hZ⟩:∃ Z,tabsS l1 ++ (tabsS l2 ++ Sf) = Z:=⟨_,rfl⟩
  have hop:=tabs_open (l1:=l1) (l2:=l2) (t:=t) Sf
  rw [← hts,hZ] at hop
  refine AWP.perm (S':=(B,.row 52 2 [entA e]) :: (arH a' ++ (tabS t ++ Z))) ?_ ?_
  ·refine List.Perm.cons _ ?_
   rw [arS,List.append_assoc]
   exact hop.append_left _
  have htm:t ∈ a'.ts:=by rw [hts];simp
  have hto:=hok.tab t htm
  have hat:(ptrs Tab.X a'.ts)[i]? = some (.ptr t.X 0 0):=by
   rw [List.getElem?_map,hts,List.getElem?_append_right (by omega),hil,Nat.sub_self];rfl
  have hil2:i < a'.ts.length:=by rw [hts,List.length_append,List.length_cons];omega
  have hft:e.n ∉ keysC t.es:=fun hm=>hf (by rw [← hke];exact List.mem_flatMap.2 ⟨t,htm,hm⟩)
  have hpe:=(cputE_sp t.ek t.es hto.es e.n e hn).tt
  have hlm:(l.map (compA false)).length = l.length:=List.length_map _
  have hlc:t.cs.length = l.length:=by rw [← hto.len,htk,hkl]
  (repeat first | refine AOps.nil ?_ | refine WF ?_)
  (repeat refine WF ?_);refine AWP.region ?_;(repeat (first | (refine AOps.gN ?_;first | refine AOps.go (h:=W.idx rfl rfl (by exact At.f) rfl (by omega) (Nat.zero_add _)) (k:=?_)) | refine WO ?_ | refine All.i fun X=>?_ | refine AllY.i fun Y=>?_));refine AOps.nil ?_;(repeat refine WN ?_)
  (repeat first | refine AOps.nil ?_ | refine WF ?_)
  (repeat refine WF ?_);refine AWP.region_tail 7 (by kernel_rfl) (by kernel_rfl) (by kernel_rfl) ?_;dsimp only [List.take,List.drop];(repeat (first | refine RK ?_ | refine RGo.nil (by kernel_rfl) ?_))
  refine AOps.p3 [_,_,_,_,_,_,_] (h:=hpe) fun q _=>?_
  refine AOps.nil ?_
  obtain ⟨k',hk'⟩:∃ k':StK,k' = ⟨t.ek.X,q.1,q.2,t.ek.M⟩:=⟨_,rfl⟩
  rw [← hk']
  (repeat first | refine AOps.nil ?_ | refine WF ?_)
  (repeat refine WF ?_);refine AWP.region ?_;(repeat (first | refine WO ?_ | refine All.i fun X=>?_ | refine AllY.i fun Y=>?_));refine AOps.nil ?_;(repeat refine WN ?_)
  (repeat first | refine AOps.nil ?_ | refine WF ?_)
  refine AWP.lp2 (fun (j:Nat) (cs:List (StK × List (Int × List Int)))=>⟨[(0,.ptr a'.A 0 0),(4,.ptr B 0 0),(10,.ptr t.X 0 0),(71,compsA false false l),(72,iA (l.map (compA false)).length),(73,iA j)],(B,.row 52 2 [entA e]) :: (arH a' ++ (tabH t :: (stE k' (stPut t.es e.n e) ++ (colsS cs ++ Z))))⟩) (fun j cs=>j ≤ l.length ∧ CsUp e.n l j t.cs cs) (fun j _=>l.length - j) 0 t.cs ⟨by omega,.zero _ _ _⟩ ?_
  rintro j cs ⟨hj,hcs⟩
  have hcl:=hcs.len
  have hcp:=hcs.ptrs
  (repeat refine WF ?_);refine AWP.region ?_;(repeat (first | refine WO ?_ | refine All.i fun X=>?_ | refine AllY.i fun Y=>?_));refine AOps.nil ?_;(repeat refine WN ?_)
  (repeat first | refine AOps.nil ?_ | refine WF ?_)
  refine AWP.cond rfl (fun h=>?_) (fun h=>?_)
  ·have h:j < l.length:=by rw [decide_eq_true_eq,hlm] at h;omega
   have hjc:j < cs.length:=by omega
   have hjt:j < t.cs.length:=by omega
   have hlat:(l.map (compA false))[j]? = some (compA false l[j]):=map_at _ h
   have hlil:j < (l.map (compA false)).length:=by omega
   have hcat:(t.cs.map fun c=>AV.ptr c.1.X 0 0)[j]? = some (.ptr cs[j].1.X 0 0):=by rw [← hcp];exact map_at _ hjc
   have hcil:j < (t.cs.map fun c=>AV.ptr c.1.X 0 0).length:=by rw [List.length_map];omega
   have hcj:cs[j].2 = t.cs[j].2:=by rw [hcs.c j hjt hjc,if_neg (by omega)]
   have hcok:ColOK cs[j].2:=by rw [hcj];exact hto.cs _ (List.getElem_mem hjt)
   obtain ⟨m1,m2,hsp,hm1⟩:=splitL_at hjc
   have hlj:l[j]? = some l[j]:=List.getElem?_eq_getElem h
   obtain ⟨⟨ck,cv⟩,hce⟩:∃ c,l[j] = c:=⟨_,rfl⟩
   rw [hce] at hlat hlj
   obtain ⟨c,hcc⟩:∃ c,cs[j] = c:=⟨_,rfl⟩
   rw [hcc] at hcat hcok hsp
   have hpu:=(cputS_sp c.1 c.2 hcok e.n cv hn).tt
   (repeat first | refine AOps.nil ?_ | refine WF ?_)
   (repeat refine WF ?_);refine AWP.region ?_;(repeat (first | refine WO ?_ | refine All.i fun C=>?_ | refine AllY.i fun Y=>?_));refine AOps.nil ?_;(repeat refine WN ?_)
   (repeat first | refine AOps.nil ?_ | refine WF ?_)
   have heq:(C,AO.row 58 2 [compA false ⟨ck,cv⟩]) :: (B,AO.row 52 2 [entA e]) :: (arH a' ++ (tabH t :: (stE k' (stPut t.es e.n e) ++ (colsS cs ++ Z)))) = ((C,AO.row 58 2 [compA false ⟨ck,cv⟩]) :: (B,AO.row 52 2 [entA e]) :: (arH a' ++ (tabH t :: (stE k' (stPut t.es e.n e) ++ colsS m1)))) ++ (stS c.1 c.2 ++ (colsS m2 ++ Z)):=by
    rw [hsp,colsS_app,colsS_cons]
    simp only [List.cons_append,List.append_assoc,List.nil_append]
   (repeat refine WF ?_);refine AWP.region_tail 11 (by kernel_rfl) (by kernel_rfl) (by kernel_rfl) ?_;dsimp only [List.take,List.drop];(repeat (first | refine RK ?_ | refine RGo.nil (by kernel_rfl) ?_))
   refine AOps.p3 _ (h:=hpu) (k:=fun q2 _=>?_) (hp:=heq)
   have heq2:((C,AO.row 58 2 [compA false ⟨ck,cv⟩]) :: (B,AO.row 52 2 [entA e]) :: (arH a' ++ (tabH t :: (stE k' (stPut t.es e.n e) ++ colsS m1)))) ++ (stS ⟨c.1.X,q2.1,q2.2,c.1.M⟩ (stPut c.2 e.n cv) ++ (colsS m2 ++ Z)) = (C,AO.row 58 2 [compA false ⟨ck,cv⟩]) :: (B,AO.row 52 2 [entA e]) :: (arH a' ++ (tabH t :: (stE k' (stPut t.es e.n e) ++ (colsS (m1 ++ ((⟨c.1.X,q2.1,q2.2,c.1.M⟩:StK),stPut c.2 e.n cv) :: m2) ++ Z)))):=by
    rw [colsS_app,colsS_cons]
    simp only [List.cons_append,List.append_assoc,List.nil_append]
   refine AOps.perm (List.Perm.of_eq heq2) ?_
   refine AOps.nil ?_
   (repeat first | refine AOps.nil ?_ | refine WF ?_)
   (repeat refine WF ?_);refine AWP.region ?_;(repeat (first | refine WO ?_ | refine All.i fun X=>?_ | refine AllY.i fun Y=>?_));refine AOps.nil ?_;(repeat refine WN ?_)
   exact lp_next2 (j + 1) (m1 ++ ((⟨c.1.X,q2.1,q2.2,c.1.M⟩:StK),stPut c.2 e.n cv) :: m2) ⟨by omega,hcs.next hsp hm1 (by rw [hlj];rfl) _ rfl⟩ (by omega)
  ·have h:j = l.length:=by rw [decide_eq_false_iff_not,hlm] at h;omega
   subst h
   rw [← hlc] at hcs
   have hfa:e.n ∉ tKeys a'.ts:=by rw [hke];exact hf
   have hgn:a'.g e.n = none:=by
    cases hg:a'.g e.n with
    | none=>rfl
    | some u =>
     obtain ⟨w,hw,h2,_⟩:=hok.g _ _ hg
     exact absurd (List.mem_flatMap.2 ⟨w,hw,h2⟩) hfa
   have hsz:(if (a'.g e.n).isSome then a'.c else a'.c + 1) = a'.c + 1:=by rw [hgn];rfl
   have hmx:a'.c < maxLen:=by have:=hok.c_le;unfold maxLen;omega
   (repeat first | refine AOps.nil ?_ | refine WF ?_)
   refine AWP.namePtr (X:=t.X) 10 (fun b=>?_)
   obtain ⟨K',hK'⟩:∃ K':AV → Value → Prop,K' = fun v u=>a'.K v u ∨ (v = .ptr t.X 0 0 ∧ u = .pointer (some ⟨b,0,none⟩)):=⟨_,rfl⟩
   rw [← hK']
   refine AWP.perm (S':=(B,.row 52 2 [entA e]) :: (arH { a' with ts:=l1 ++ upT t k' e cs :: l2,K:=K' } ++ (tabsS (l1 ++ upT t k' e cs :: l2) ++ Sf))) ?_ ?_
   ·refine List.Perm.cons _ ?_
    have hln:(l1 ++ upT t k' e cs :: l2).length = a'.ts.length:=by rw [hts];simp
    have hpr:ptrs Tab.X (l1 ++ upT t k' e cs :: l2) = ptrs Tab.X a'.ts:=by rw [hts,ptrs,ptrs,List.map_append,List.map_append,List.map_cons,List.map_cons]
    show List.Perm ([(a'.A,.row 85 4 [.agg [kindsA false false a'.kinds,.sl a'.G 0 a'.gens.length,.sl a'.Tb 0 a'.ts.length,.mp a'.O]]),(a'.G,.row 3 1 (a'.gens.map iA)),(a'.O,.ob (MapF Try.prog 3 90 a'.g a'.c)),(a'.Tv,.tv K'),(a'.Tb,.row 90 1 (ptrs Tab.X a'.ts))] ++ (tabH t :: (stE k' (stPut t.es e.n e) ++ (colsS cs ++ Z)))) ([(a'.A,.row 85 4 [.agg [kindsA false false a'.kinds,.sl a'.G 0 a'.gens.length,.sl a'.Tb 0 (l1 ++ upT t k' e cs :: l2).length,.mp a'.O]]),(a'.G,.row 3 1 (a'.gens.map iA)),(a'.O,.ob (MapF Try.prog 3 90 a'.g a'.c)),(a'.Tv,.tv K'),(a'.Tb,.row 90 1 (ptrs Tab.X (l1 ++ upT t k' e cs :: l2)))] ++ (tabsS (l1 ++ upT t k' e cs :: l2) ++ Sf))
    rw [hln,hpr]
    refine List.Perm.append_left _ ?_
    refine List.Perm.trans ?_ (tabs_open (l1:=l1) (l2:=l2) (t:=upT t k' e cs) Sf).symm
    rw [hZ]
    refine List.Perm.of_eq ?_
    have hkx:k'.X = t.ek.X:=by rw [hk']
    show _ = ((t.X,AO.row 96 3 [.agg [intsA false t.ks,.ptr k'.X 0 0,colP cs]]) :: (stE k' (stPut t.es e.n e) ++ colsS cs)) ++ Z
    rw [hkx,colP,hcp]
    rfl
   ·(repeat refine WF ?_);refine AWP.region_run (by kernel_rfl) (by kernel_rfl) ?_;(repeat (first | (refine RGo.gN ?_;first | refine RGo.goS (h:=W.mapUpd (PlainV.ptr (te:=96) (by kernel_rfl) b) (by omega) hmx rfl rfl rfl (by exact At.f)) (k:=?_)) | (refine RGo.gQ ?_;first | refine RGo.goS (h:=W.mapUpd (PlainV.ptr (te:=96) (by kernel_rfl) b) (by omega) hmx rfl rfl rfl (by exact At.f)) (k:=?_)) | refine RK ?_ | refine RGo.nil (by kernel_rfl) ?_))
    rw [hsz]
    have hup:ArOK { a' with ts:=l1 ++ upT t k' e cs :: l2,K:=K',g:=updG a'.g e.n (.pointer (some ⟨b,0,none⟩)),c:=a'.c + 1 }:=hok.up hts hn hfa hcs (fun v u h=>by rw [hK'];exact .inl h) (by rw [hK'];exact .inr ⟨rfl,rfl⟩)
    have hitm:=items_up (l1:=l1) (l2:=l2) (k:=k') hto hn hft (htk.trans hks.symm) hcs
    rw [← hts,hit] at hitm
    refine retQ_n ?_
    exact Ends.sp [] (arS { a' with ts:=l1 ++ upT t k' e cs :: l2,K:=K',g:=updG a'.g e.n (.pointer (some ⟨b,0,none⟩)),c:=a'.c + 1 }) ⟨_,⟨hup,ne_up hn1 hn2 hft,rfl,hki,hge,hitm⟩,rfl,rfl⟩
theorem cloneE_ps (l:List Ent) (hl:l.length * 16 ≤ 140737488355328):PS Try.prog 75 [.lst false 52 2 (l.map entA)] (.lst true 52 2 (l.map entA)):=by
 refine Spec.of (nt:=8) (res:=[.tmp 2]) Try.func75 rfl (by kernel_rfl) rfl rfl rfl fun Sf=>?_
 (repeat (first | (refine AOps.gN ?_;first | refine AOps.isNil fun b hb=>?_) | refine WK ?_ | refine All.i fun X=>?_ | refine AllY.i fun Y=>?_))
 refine AWP.cond rfl (fun hc=>?_) (fun hc=>?_)
 ·rw [hb hc]
  (repeat (first | refine WK ?_ | refine All.i fun X=>?_ | refine AllY.i fun Y=>?_))
  (refine AWP.ret ?_;(repeat (first | refine inB_r ?_ | refine andThen_r ?_));refine retQ_r ?_)
  exact ⟨[.prim (.slice none 0 0)],[.lst true 52 2 []],_,[],.cons (.tmp rfl) rfl .nil,.cons (.cell .nil) .nil,by exact Sub.f,rfl,rfl⟩
 ·have hl':(0 + (l.map entA).length) * 16 ≤ 140737488355328:=by simpa using hl
  clear hl
  (repeat (first | (refine AOps.gN ?_;first | (refine AOps.g_lit ?_;refine AOps.goL0 fun K=>?_)) | refine WK ?_ | refine All.i fun X=>?_ | refine AllY.i fun Y=>?_))
  (refine AWP.ret ?_;(repeat (first | refine inB_r ?_ | refine andThen_r ?_));refine retQ_r ?_)
  exact ⟨[.sl Y 0 (0 + (l.map entA).length)],[.lst true 52 2 (l.map entA)],_,[],.cons (.tmp rfl) rfl .nil,.cons (.cell (.sl (p:=0) .here (by simp))) .nil,by exact Sub.f,rfl,rfl⟩
theorem cloneI_ps (l:List Int) (hl:l.length * 8 ≤ 140737488355328):PS Try.prog 31 [.lst false 3 1 (l.map iA)] (.lst true 3 1 (l.map iA)):=by
 refine Spec.of (nt:=8) (res:=[.tmp 2]) Try.func31 rfl (by kernel_rfl) rfl rfl rfl fun Sf=>?_
 (repeat (first | (refine AOps.gN ?_;first | refine AOps.isNil fun b hb=>?_) | refine WK ?_ | refine All.i fun X=>?_ | refine AllY.i fun Y=>?_))
 refine AWP.cond rfl (fun hc=>?_) (fun hc=>?_)
 ·rw [hb hc]
  (repeat (first | refine WK ?_ | refine All.i fun X=>?_ | refine AllY.i fun Y=>?_))
  (refine AWP.ret ?_;(repeat (first | refine inB_r ?_ | refine andThen_r ?_));refine retQ_r ?_)
  exact ⟨[.prim (.slice none 0 0)],[.lst true 3 1 []],_,[],.cons (.tmp rfl) rfl .nil,.cons (.cell .nil) .nil,by exact Sub.f,rfl,rfl⟩
 ·have hl':(0 + (l.map iA).length) * 8 ≤ 140737488355328:=by simpa using hl
  clear hl
  (repeat (first | (refine AOps.gN ?_;first | (refine AOps.g_lit ?_;refine AOps.goL0 fun K=>?_)) | refine WK ?_ | refine All.i fun X=>?_ | refine AllY.i fun Y=>?_))
  (refine AWP.ret ?_;(repeat (first | refine inB_r ?_ | refine andThen_r ?_));refine retQ_r ?_)
  exact ⟨[.sl Y 0 (0 + (l.map iA).length)],[.lst true 3 1 (l.map iA)],_,[],.cons (.tmp rfl) rfl .nil,.cons (.cell (.sl (p:=0) .here (by simp))) .nil,by exact Sub.f,rfl,rfl⟩
theorem ints_lds (S:List Slot):∀ b:List Int,Lds S (b.map iA) (b.map iA)
 | []=>.nil
 | x :: b=>.cons (show Ld S (iA x) (iA x) from .frz (a:=iA x)) (ints_lds S b)
theorem ents_lds (S:List Slot):∀ b:List Ent,Lds S (b.map entA) (b.map entA)
 | []=>.nil
 | x :: b=>.cons (show Ld S (entA x) (entA x) from .frz (a:=entA x)) (ents_lds S b)
theorem cloneIs_sp (X:Nat) (l:List Int) (n:Nat) (hn:n = l.length) (hl:l.length * 8 ≤ 140737488355328):Spec Try.prog 31 [.sl X 0 n] [(X,.row 3 1 (l.map iA))] fun r S'=>r = .lst true 3 1 (l.map iA) ∧ S' = [(X,.row 3 1 (l.map iA))]:=by
 subst hn
 refine PS.lend (cloneI_ps l hl) (by show AV.looses _ = true;rw [looses_map (fun _=>rfl)]) (.cons (.sl .here (by simp) ?_) .nil)
 rw [List.drop_zero,List.take_of_length_le (by simp)]
 exact ints_lds _ _
theorem cloneEs_sp (X:Nat) (l:List Ent) (n:Nat) (hn:n = l.length) (hl:l.length * 16 ≤ 140737488355328):Spec Try.prog 75 [.sl X 0 n] [(X,.row 52 2 (l.map entA))] fun r S'=>r = .lst true 52 2 (l.map entA) ∧ S' = [(X,.row 52 2 (l.map entA))]:=by
 subst hn
 refine PS.lend (cloneE_ps l hl) (by show AV.looses _ = true;rw [looses_map (fun _=>rfl)]) (.cons (.sl .here (by simp) ?_) .nil)
 rw [List.drop_zero,List.take_of_length_le (by simp)]
 exact ents_lds _ _
abbrev entsA (l:List Ent):AV:=.lst false 52 2 (l.map entA)
theorem allE_sp (k:StK) (l:List (Int × Ent)) (hl:ColOK l):Spec Try.prog 42 [.ptr k.X 0 0] (stE k l) fun r S'=>r = .fn 76 [.fp [intsA false (keysC l)],.fp [entsA (l.map (·.2))]] ∧ S' = stE k l:=by
 have hlen:=hl.len
 have h1:=cloneIs_sp k.R (keysC l) l.length (by simp) (by rw [List.length_map];omega)
 have h2:=cloneEs_sp k.V (l.map (·.2)) l.length (by simp) (by rw [List.length_map];omega)
 have e1:(keysC l).map iA = l.map fun e=>iA e.1:=List.map_map
 have e2:(l.map (·.2)).map entA = l.map fun e=>entA e.2:=List.map_map
 rw [e1] at h1
 rw [e2] at h2
 refine Spec.of (nt:=16) (res:=[.tmp 2]) Try.func42 rfl (by kernel_rfl) rfl rfl rfl fun Sf=>?_
 (repeat refine WF ?_);refine AWP.region ?_;(repeat (first | refine WO ?_ | refine All.i fun X=>?_ | refine AllY.i fun Y=>?_));refine AOps.nil ?_;(repeat refine WN ?_)
 (repeat first | refine AOps.nil ?_ | refine WF ?_)
 refine AWP.rs fun A=>AWP.rs fun B=>?_
 (repeat refine WF ?_);refine AWP.region_run (by kernel_rfl) (by kernel_rfl) ?_;(repeat (first | (refine RGo.gN ?_;first | (refine RGo.g_callf ?_;first | refine RGo.z1 (h:=h1) (hT:=.fz) (k:=?_) | refine RGo.z1 (h:=h2) (hT:=.fz) (k:=?_))) | (refine RGo.gQ ?_;first | (refine RGo.g_callf ?_;first | refine RGo.z1 (h:=h1) (hT:=.fz) (k:=?_) | refine RGo.z1 (h:=h2) (hT:=.fz) (k:=?_))) | refine RK ?_ | refine RGo.nil (by kernel_rfl) ?_))
 (repeat first | refine AOps.nil ?_ | refine WF ?_)
 refine AWP.iceP [3] .here ?_ (by intro d hd;simp only [List.mem_singleton] at hd;subst hd;rfl)
 refine AWP.iceP [4] (.next .here) ?_ (by intro d hd;simp only [List.mem_singleton] at hd;subst hd;rfl)
 (repeat refine WF ?_);refine AWP.region ?_;(repeat (first | refine WO ?_ | refine All.i fun X=>?_ | refine AllY.i fun Y=>?_));refine AOps.nil ?_;(repeat refine WN ?_)
 have er:AV.fn 76 [.fp [intsA false (keysC l)],.fp [entsA (l.map (·.2))]] = AV.fn 76 [.fp [.lst false 3 1 (l.map fun e=>iA e.1)],.fp [.lst false 52 2 (l.map fun e=>entA e.2)]]:=by rw [intsA,entsA,e1,e2]
 rw [er]
 (refine AWP.ret ?_;(repeat (first | refine inB_r ?_ | refine andThen_r ?_));refine retQ_r ?_)
 exact Ends.sp [AV.fn 76 [.fp [.lst false 3 1 (l.map fun e=>iA e.1)],.fp [.lst false 52 2 (l.map fun e=>entA e.2)]]] (stE k l) ⟨rfl,rfl⟩
theorem allE_itr (ks:List Int) (es:List Ent) (hl:ks.length = es.length) (h0:ks.length ≤ 1099511627776):Itr Try.prog 76 [.fp [intsA false ks],.fp [entsA es]] ((ks.zip es).map fun q=>[iA q.1,entA q.2]):=by
 have hkm:(ks.map iA).length = ks.length:=List.length_map _
 have hem:(es.map entA).length = es.length:=List.length_map _
 refine ⟨by kernel_rfl,fun y J Jx hY Sl hJ0=>?_⟩
 refine Spec.of (nt:=22) (res:=[]) Try.func76 rfl (by kernel_rfl) rfl rfl rfl fun Sf=>?_
 (repeat refine WF ?_);refine AWP.region ?_;(repeat (first | refine WO ?_ | refine All.i fun X=>?_ | refine AllY.i fun Y=>?_));refine AOps.nil ?_;(repeat refine WN ?_)
 (repeat first | refine AOps.nil ?_ | refine WF ?_)
 refine AWP.lp2 (fun (i:Nat) (Sl:List Slot)=>⟨[(0,.prim y),(2,.fp [entsA es]),(6,intsA false ks),(7,iA (ks.map iA).length),(8,iA i)],Sl ++ Sf⟩) (fun i Sl=>i ≤ ks.length ∧ J i Sl) (fun i _=>ks.length - i) 0 Sl ⟨Nat.zero_le _,hJ0⟩ ?_
 rintro i Sl ⟨hi,hJ⟩
 (repeat refine WF ?_);refine AWP.region ?_;(repeat (first | refine WO ?_ | refine All.i fun X=>?_ | refine AllY.i fun Y=>?_));refine AOps.nil ?_;(repeat refine WN ?_)
 (repeat first | refine AOps.nil ?_ | refine WF ?_)
 refine AWP.cond rfl (fun hc=>?_) (fun hc=>?_)
 ·have h:i < ks.length:=by rw [decide_eq_true_eq,hkm] at hc;omega
  have he:i < es.length:=by omega
  have hat:(ks.map iA)[i]? = some (iA ks[i]):=map_at _ h
  have hil:i < (ks.map iA).length:=by omega
  have hat2:(es.map entA)[i]? = some (entA es[i]):=map_at _ he
  have hil2:i < (es.map entA).length:=by omega
  have hyi:((ks.zip es).map fun q=>[iA q.1,entA q.2])[i]? = some [iA ks[i],entA es[i]]:=by
   rw [List.getElem?_map,List.getElem?_eq_getElem (by rw [List.length_zip];omega),List.getElem_zip];rfl
  obtain ⟨k,hk⟩:∃ k,ks[i] = k:=⟨_,rfl⟩
  obtain ⟨e,hee⟩:∃ e,es[i] = e:=⟨_,rfl⟩
  rw [hk] at hat hyi
  rw [hee] at hat2 hyi
  (repeat first | refine AOps.nil ?_ | refine WF ?_)
  (repeat refine WF ?_);refine AWP.region ?_;(repeat (first | refine WO ?_ | refine All.i fun X=>?_ | refine AllY.i fun Y=>?_));refine AOps.nil ?_;(repeat refine WN ?_)
  (repeat first | refine AOps.nil ?_ | refine WF ?_)
  (repeat refine WF ?_);refine AWP.region ?_;(repeat (first | refine WO ?_ | refine All.i fun X=>?_ | refine AllY.i fun Y=>?_))
  refine AOps.yield2 (Si:=[]) hY hJ hyi (fun Sl' hk=>?_) (fun Sl' hk=>?_)
  ·(repeat (first | refine WO ?_ | refine All.i fun X=>?_ | refine AllY.i fun Y=>?_))
   refine AOps.nil ?_
   (repeat first | refine AOps.nil ?_ | refine WF ?_)
   refine AWP.cond_f rfl rfl ?_
   (repeat (first | refine WK ?_ | refine All.i fun X=>?_ | refine AllY.i fun Y=>?_))
   refine lp_next2 (i + 1) Sl' ⟨h,hk⟩
  ·(repeat (first | refine WO ?_ | refine All.i fun X=>?_ | refine AllY.i fun Y=>?_))
   refine AOps.nil ?_
   (repeat first | refine AOps.nil ?_ | refine WF ?_)
   refine AWP.cond_t rfl rfl ?_
   (repeat (first | refine WK ?_ | refine All.i fun X=>?_ | refine AllY.i fun Y=>?_))
   (refine AWP.ret ?_;(repeat (first | refine inB_r ?_ | refine andThen_r ?_));refine retQ_r ?_)
   exact Ends.void Sl' (.inr hk)
 ·have h:i = ks.length:=by rw [decide_eq_false_iff_not,hkm] at hc;omega
  subst h
  (repeat (first | refine WK ?_ | refine All.i fun X=>?_ | refine AllY.i fun Y=>?_))
  refine retQ_n ?_
  exact Ends.void Sl (.inl (by rw [List.length_map,List.length_zip,← hl,Nat.min_self];exact hJ))
def lowc (c:UInt8):Bool:=decide (97 ≤ c) && decide (c ≤ 122)
def digc (c:UInt8):Bool:=decide (48 ≤ c) && decide (c ≤ 57)
def chOk (l:List UInt8) (j:Nat):Bool:=lowc (l.getD j 0) || (decide (0 < j) && digc (l.getD j 0))
def nameOk (l:List UInt8):Bool:=decide (0 < l.length) && decide (l.length ≤ 16) && (List.range l.length).all (chOk l)
def fieldErr (f:Field):Int:=if nameOk f.name && decide (1 ≤ f.bits) && decide (f.bits ≤ 32) && decide (-4294967296 ≤ f.low) && decide (f.low ≤ 4294967296) then 0 else 3
def fieldsErr:List Field → List Field → Int
 | _,[]=>0
 | pre,f :: fs=>if fieldErr f ≠ 0 then fieldErr f else if pre.any (fun o=>o.name == f.name) then 5 else fieldsErr (pre ++ [f]) fs
def oneErr (k:Kind):Int:=if nameOk k.name then (if 8 < k.fields.length then 2 else fieldsErr [] k.fields) else 3
def findKind (l:List Kind) (name:List UInt8):Int :=
 match l.findIdx? (fun k=>k.name == name) with
 | some i=>i
 | none=>-1
def kindsErr:List Kind → List Kind → Int
 | _,[]=>0
 | pre,k :: ks=>if oneErr k ≠ 0 then oneErr k else if pre.any (fun o=>o.name == k.name) then 5 else kindsErr (pre ++ [k]) ks
def checkErr (l:List Kind):Int:=if 16 < l.length then 2 else kindsErr [] l
def highOf (f:Field):Int:=if fieldErr f = 0 then f.low + (2 ^ f.bits.toNat - 1) else 0
def nearOf (f:Field) (v:Int):Int:=if fieldErr f = 0 then max f.low (min v (highOf f)) else 0
def fitOf (k:Kind) (vals:List Int):List Int × Int :=
 if oneErr k ≠ 0 then ([],oneErr k) else if vals.length ≠ k.fields.length then ([],1) else (List.zipWith nearOf k.fields vals,0)
def holdsOf (k:Kind) (vals:List Int):Bool:=decide ((fitOf k vals).2 = 0) && decide ((fitOf k vals).1 = vals)
theorem findKind_none {l:List Kind} {name:List UInt8} (h:∀ j (hj:j < l.length),l[j].name ≠ name):findKind l name = -1:=by
 have:l.findIdx? (fun k=>k.name == name) = none:=by
  rw [List.findIdx?_eq_none_iff]
  intro x hx
  obtain ⟨j,hj,rfl⟩:=List.getElem_of_mem hx
  simpa using h j hj
 simp [findKind,this]
theorem findKind_some {l:List Kind} {name:List UInt8} {i:Nat} (hi:i < l.length) (e:l[i].name = name) (h:∀ j (hj:j < i),(l[j]'(by omega)).name ≠ name):findKind l name = i:=by
 have:l.findIdx? (fun k=>k.name == name) = some i:=by
  rw [List.findIdx?_eq_some_iff_getElem]
  refine ⟨hi,by simpa using e,fun j hj=>?_⟩
  simpa using h j hj
 simp [findKind,this]
theorem kindsErr_bad {pre:List Kind} {k:Kind} {ks:List Kind} (h:oneErr k ≠ 0):kindsErr pre (k :: ks) = oneErr k:=by
 simp [kindsErr,h]
theorem kindsErr_twice {pre:List Kind} {k:Kind} {ks:List Kind} (h:oneErr k = 0) (hf:0 ≤ findKind pre k.name):kindsErr pre (k :: ks) = 5:=by
 have:pre.any (fun o=>o.name == k.name) = true:=by
  rcases hc:pre.any (fun o=>o.name == k.name) with _ | _
  ·exfalso
   rw [List.any_eq_false] at hc
   rw [findKind_none (fun j hj=>by simpa using hc _ (List.getElem_mem hj))] at hf
   omega
  ·rfl
 simp [kindsErr,h,this]
theorem kindsErr_next {pre:List Kind} {k:Kind} {ks:List Kind} (h:oneErr k = 0) (hf:findKind pre k.name < 0):kindsErr pre (k :: ks) = kindsErr (pre ++ [k]) ks:=by
 have:pre.any (fun o=>o.name == k.name) = false:=by
  rcases hc:pre.any (fun o=>o.name == k.name) with _ | _
  ·rfl
  ·exfalso
   rw [List.any_eq_true] at hc
   obtain ⟨x,hx,e⟩:=hc
   unfold findKind at hf
   split at hf
   ·omega
   ·rename_i hn
    rw [List.findIdx?_eq_none_iff] at hn
    exact absurd e (by simpa using hn x hx)
 simp [kindsErr,h,this]
theorem kindsErr_at {l:List Kind} {i:Nat} (hi:i < l.length):kindsErr (l.take i) (l.drop i) = kindsErr (l.take i) (l[i] :: l.drop (i + 1)):=by
 rw [List.drop_eq_getElem_cons hi]
theorem kindsErr_end {l:List Kind} {i:Nat} (hi:l.length ≤ i):kindsErr (l.take i) (l.drop i) = 0:=by
 rw [List.drop_of_length_le hi];rfl
theorem fieldErr_ok (f:Field) (h:nameOk f.name = true) (hb:1 ≤ f.bits ∧ f.bits ≤ 32 ∧ -4294967296 ≤ f.low ∧ f.low ≤ 4294967296):fieldErr f = 0:=by
 simp [fieldErr,h,hb]
theorem fieldErr_no (f:Field) (h:nameOk f.name = true → ¬ (1 ≤ f.bits ∧ f.bits ≤ 32 ∧ -4294967296 ≤ f.low ∧ f.low ≤ 4294967296)):fieldErr f = 3:=by
 unfold fieldErr
 rw [if_neg]
 simp only [Bool.and_eq_true,decide_eq_true_eq]
 intro hc
 exact h hc.1.1.1.1 ⟨hc.1.1.1.2,hc.1.1.2,hc.1.2,hc.2⟩
theorem fieldErr_eq_zero (f:Field):fieldErr f = 0 ↔ nameOk f.name = true ∧ 1 ≤ f.bits ∧ f.bits ≤ 32 ∧ -4294967296 ≤ f.low ∧ f.low ≤ 4294967296:=by
 constructor
 ·intro h
  unfold fieldErr at h
  split at h
  ·rename_i hc
   simpa [and_assoc] using hc
  ·simp at h
 ·rintro ⟨h,hb⟩
  exact fieldErr_ok f h hb
theorem fieldsErr_bad {pre:List Field} {f:Field} {fs:List Field} (h:fieldErr f ≠ 0):fieldsErr pre (f :: fs) = fieldErr f:=by
 simp [fieldsErr,h]
theorem fieldsErr_twice {pre:List Field} {f:Field} {fs:List Field} (h:fieldErr f = 0) {j:Nat} (hj:j < pre.length) (e:pre[j].name = f.name):fieldsErr pre (f :: fs) = 5:=by
 have:pre.any (fun o=>o.name == f.name) = true:=by
  rw [List.any_eq_true]
  exact ⟨pre[j],List.getElem_mem hj,by simp [e]⟩
 simp [fieldsErr,h,this]
theorem fieldsErr_next {pre:List Field} {f:Field} {fs:List Field} (h:fieldErr f = 0) (e:∀ j (hj:j < pre.length),pre[j].name ≠ f.name):fieldsErr pre (f :: fs) = fieldsErr (pre ++ [f]) fs:=by
 have:pre.any (fun o=>o.name == f.name) = false:=by
  rw [List.any_eq_false]
  intro x hx
  obtain ⟨j,hj,rfl⟩:=List.getElem_of_mem hx
  simpa using e j hj
 simp [fieldsErr,h,this]
theorem fieldsErr_at {l:List Field} {i:Nat} (hi:i < l.length):fieldsErr (l.take i) (l.drop i) = fieldsErr (l.take i) (l[i] :: l.drop (i + 1)):=by
 rw [List.drop_eq_getElem_cons hi]
theorem fieldsErr_end {l:List Field} {i:Nat} (hi:l.length ≤ i):fieldsErr (l.take i) (l.drop i) = 0:=by
 rw [List.drop_of_length_le hi];rfl
theorem nameOk_no (l:List UInt8) (j:Nat) (hj:j < l.length) (h:chOk l j = false):nameOk l = false:=by
 have:(List.range l.length).all (chOk l) = false:=by
  rw [List.all_eq_false]
  exact ⟨j,List.mem_range.2 hj,by simp [h]⟩
 simp [nameOk,this]
theorem nameOk_yes (l:List UInt8) (h0:0 < l.length) (h1:l.length ≤ 16) (h:∀ j,j < l.length → chOk l j = true):nameOk l = true:=by
 have:(List.range l.length).all (chOk l) = true:=by
  rw [List.all_eq_true]
  intro x hx
  exact h x (List.mem_range.1 hx)
 simp [nameOk,this,h0,h1]
theorem nameOk_long (l:List UInt8) (h:l.length = 0 ∨ 16 < l.length):nameOk l = false:=by
 rcases h with h | h
 ·simp [nameOk,h]
 ·simp [nameOk,show ¬ l.length ≤ 16 from by omega]
theorem pow_bits {b:Int} (h1:1 ≤ b) (h2:b ≤ 32):(2:Int) ≤ 2 ^ b.toNat ∧ (2:Int) ^ b.toNat ≤ 4294967296:=by
 obtain ⟨n,rfl⟩:∃ n:Nat,b = n:=⟨b.toNat,by omega⟩
 rw [Int.toNat_natCast]
 have h:n = 1 ∨ n = 2 ∨ n = 3 ∨ n = 4 ∨ n = 5 ∨ n = 6 ∨ n = 7 ∨ n = 8 ∨ n = 9 ∨ n = 10 ∨ n = 11 ∨ n = 12 ∨ n = 13 ∨ n = 14 ∨ n = 15 ∨ n = 16 ∨ n = 17 ∨ n = 18 ∨ n = 19 ∨ n = 20 ∨ n = 21 ∨ n = 22 ∨ n = 23 ∨ n = 24 ∨ n = 25 ∨ n = 26 ∨ n = 27 ∨ n = 28 ∨ n = 29 ∨ n = 30 ∨ n = 31 ∨ n = 32:=by omega
 rcases h with rfl | rfl | rfl | rfl | rfl | rfl | rfl | rfl | rfl | rfl | rfl | rfl | rfl | rfl | rfl | rfl | rfl | rfl | rfl | rfl | rfl | rfl | rfl | rfl | rfl | rfl | rfl | rfl | rfl | rfl | rfl | rfl <;> decide
theorem highOf_eq {f:Field} (h:fieldErr f = 0):highOf f = f.low + (2 ^ f.bits.toNat - 1):=by simp [highOf,h]
theorem highOf_bd {f:Field} (h:fieldErr f = 0):f.low < highOf f ∧ highOf f ≤ 8589934592:=by
 have hb:=(fieldErr_eq_zero f).1 h
 have:=pow_bits hb.2.1 hb.2.2.1
 rw [highOf_eq h]
 omega
theorem fieldsErr_zero {pre l:List Field} (h:fieldsErr pre l = 0):∀ f ∈ l,fieldErr f = 0:=by
 induction l generalizing pre with
 | nil=>intro f hf;cases hf
 | cons x l ih =>
  intro f hf
  simp only [fieldsErr] at h
  split at h
  ·rename_i hx;exact absurd h hx
  ·rename_i hx
   split at h
   ·simp at h
   ·rcases List.mem_cons.1 hf with rfl | hf
    ·simpa using hx
    ·exact ih h f hf
theorem oneErr_zero {k:Kind} (h:oneErr k = 0):nameOk k.name = true ∧ k.fields.length ≤ 8 ∧ ∀ f ∈ k.fields,fieldErr f = 0:=by
 unfold oneErr at h
 split at h
 ·rename_i h1
  split at h
  ·simp at h
  ·rename_i h2
   exact ⟨h1,by omega,fieldsErr_zero h⟩
 ·simp at h
theorem find_ps (l:List Kind) (name:List UInt8) (hl:l.length ≤ 1099511627776):PS Try.prog 94 [kindsA false false l,sA name] (iA (findKind l name)):=by
 refine Spec.of (nt:=20) (res:=[.tmp 4]) Try.func94 rfl (by kernel_rfl) rfl rfl rfl fun Sf=>?_
 (repeat (first | refine AWP.loopR (fun i:Nat=>⟨[(1,sA name),(7,kindsA false false l),(8,iA (l.map (kindA false)).length),(9,iA i)],Sf⟩) (fun i=>i ≤ l.length ∧ ∀ j (h:j < l.length),j < i → l[j].name ≠ name) (fun i=>l.length - i) 0 ⟨by omega,by omega⟩ ⟨.cons rfl (.cons rfl (.cons rfl (.cons rfl .nil))),List.Sublist.refl _⟩ ?_ | refine WK ?_ | refine All.i fun X=>?_ | refine AllY.i fun Y=>?_))
 rintro i ⟨hi,hn⟩
 (repeat (first | refine WK ?_ | refine All.i fun X=>?_ | refine AllY.i fun Y=>?_))
 refine AWP.cond rfl (fun hb=>?_) (fun hb=>?_)
 ·have h:i < l.length:=by simpa using hb
  (repeat (first | (refine AOps.gN ?_;first | refine AOps.p (W.idxL rfl rfl rfl (map_at _ h)) rfl ?_) | refine WK ?_ | refine All.i fun X=>?_ | refine AllY.i fun Y=>?_))
  refine AWP.cond rfl (fun hc=>?_) (fun hc=>?_)
  ·have hc:l[i].name = name:=by simpa using hc
   (repeat (first | refine WK ?_ | refine All.i fun X=>?_ | refine AllY.i fun Y=>?_))
   (refine AWP.ret ?_;(repeat (first | refine inB_r ?_ | refine andThen_r ?_));refine retQ_r ?_)
   refine Ends.plain rfl rfl (by exact Sub.f) ⟨?_,rfl⟩
   rw [findKind_some h hc fun j hj=>hn j (by omega) hj]
  ·have hc:l[i].name ≠ name:=by simpa using hc
   (repeat (first | refine WK ?_ | refine All.i fun X=>?_ | refine AllY.i fun Y=>?_))
   refine ⟨i + 1,⟨by omega,fun j hj hji=>?_⟩,by omega,.cons rfl (.cons rfl (.cons rfl (.cons rfl .nil))),by exact Sub.f⟩
   by_cases e:j = i
   ·subst e;exact hc
   ·exact hn j hj (by omega)
 ·have h:¬ i < l.length:=by simpa using hb
  (repeat (first | refine WK ?_ | refine All.i fun X=>?_ | refine AllY.i fun Y=>?_))
  (refine AWP.ret ?_;(repeat (first | refine inB_r ?_ | refine andThen_r ?_));refine retQ_r ?_)
  refine Ends.plain rfl rfl (by exact Sub.f) ⟨?_,rfl⟩
  rw [findKind_none fun j hj=>hn j hj (by omega)]
def kcpL (ks:List Kind) (i:Nat):List AV:=(ks.take i).map (kindA true) ++ List.replicate (ks.length - i) (.agg [sA [],.prim (.slice none 0 0)])
theorem kcpL_len (ks:List Kind) (i:Nat) (h:i ≤ ks.length):(kcpL ks i).length = ks.length:=by simp [kcpL];omega
theorem kcpL_at {ks:List Kind} {i:Nat} (h:i < ks.length):(kcpL ks i)[i]? = some (.agg [sA [],.prim (.slice none 0 0)]):=by
 unfold kcpL
 rw [List.getElem?_append_right (by simp;omega),List.getElem?_replicate,if_pos (by simp;omega)]
theorem kcpL_set {ks:List Kind} {i:Nat} (h:i < ks.length):(kcpL ks i).set i (kindA true ks[i]) = kcpL ks (i + 1):=by
 unfold kcpL
 rw [List.set_append_right _ _ (by simp;omega),List.length_map,List.length_take,Nat.min_eq_left (by omega),Nat.sub_self]
 rw [show ks.length - i = (ks.length - (i + 1)) + 1 from by omega,List.replicate_succ,List.set_cons_zero]
 rw [List.take_succ_eq_append_getElem h,List.map_append,List.append_assoc]
 rfl
theorem kindCopy_ps (ks:List Kind) (hl:ks.length ≤ 1099511627776) (hf:∀ k ∈ ks,k.fields.length ≤ 1099511627776):PS Try.prog 37 [kindsA false false ks] (kindsA true true ks):=by
 refine Spec.of (nt:=27) (res:=[.tmp 2]) Try.func37 rfl (by kernel_rfl) rfl rfl rfl fun Sf=>?_
 have hkm:(ks.map (kindA false)).length = ks.length:=List.length_map _
 have hz0:List.replicate (ks.map (kindA false)).length (.agg [sA [],.prim (.slice none 0 0)]) = kcpL ks 0:=by simp [kcpL]
 (repeat (first | (refine AOps.gN ?_;first | (refine AOps.g_make ?_;refine AOps.goM ((.agg [sA [],.prim (.slice none 0 0)])) fun K=>?_)) | refine WK ?_ | refine All.i fun X=>?_ | refine AllY.i fun Y=>?_))
 rw [hz0]
 refine AWP.lp2 (fun (i:Nat) (M:List AV)=>⟨[(3,.sl K 0 (ks.map (kindA false)).length),(9,kindsA false false ks),(10,iA (ks.map (kindA false)).length),(11,iA i)],(K,.row 107 2 M) :: Sf⟩) (fun i M=>i ≤ ks.length ∧ M = kcpL ks i) (fun i _=>ks.length - i) 0 _ ⟨Nat.zero_le _,rfl⟩ ?_
 rintro i M ⟨hi,hM⟩
 (repeat (first | refine WK ?_ | refine All.i fun X=>?_ | refine AllY.i fun Y=>?_))
 refine AWP.cond rfl (fun hc=>?_) (fun hc=>?_)
 ·have h:i < ks.length:=by rw [decide_eq_true_eq,hkm] at hc;omega
  have hset:=kcpL_set h
  have hMat:M[i]? = some (.agg [sA [],.prim (.slice none 0 0)]):=by rw [hM];exact kcpL_at h
  have hMl:M.length = ks.length:=by rw [hM];exact kcpL_len ks i hi
  have hfl:=hf _ (List.getElem_mem h)
  obtain ⟨⟨kn,fs⟩,hk⟩:∃ k,ks[i] = k:=⟨_,rfl⟩
  rw [hk] at hset hfl
  dsimp only at hfl
  have hat:(ks.map (kindA false))[i]? = some (kindA false ⟨kn,fs⟩):=by rw [List.getElem?_map,List.getElem?_eq_getElem h,hk];rfl
  have hil:i < (ks.map (kindA false)).length:=by omega
  have hfm:(fs.map fieldA).length = fs.length:=List.length_map _
  (repeat (first | refine WK ?_ | refine All.i fun V=>?_ | refine AllY.i fun Y=>?_))
  refine AWP.rs fun Y=>?_
  (repeat refine WF ?_);refine AWP.region_run (by kernel_rfl) (by kernel_rfl) ?_;(repeat (first | (refine RGo.gN ?_;first | refine RGo.s (W.appN (by rw [hfm];omega) (by rw [hfm];unfold maxLen;omega) rfl rfl (by exact At.f)) rfl ?_) | (refine RGo.gQ ?_;first | refine RGo.s (W.appN (by rw [hfm];omega) (by rw [hfm];unfold maxLen;omega) rfl rfl (by exact At.f)) rfl ?_) | refine RK ?_ | refine RGo.nil (by kernel_rfl) ?_))
  (repeat refine WF ?_)
  have hMs:(M.set i (.agg [sA kn,.sl Y 0 (fs.map fieldA).length]))[i]? = some (.agg [sA kn,.sl Y 0 (fs.map fieldA).length]):=by rw [List.getElem?_set_self (by omega)]
  refine AWP.closeIn (X:=Y) (Y:=K) .here (.next (.next .here)) rfl rfl (Hos.at hMs (.agg (.tail (.head .here)))) ?_
  rw [List.set_set]
  (repeat (first | refine WK ?_ | refine All.i fun X=>?_ | refine AllY.i fun Y=>?_))
  refine lp_next2 (i + 1) _ ⟨h,?_⟩
  rw [hM];exact hset
 ·have h:i = ks.length:=by rw [decide_eq_false_iff_not,hkm] at hc;omega
  subst h
  have hfin:kcpL ks ks.length = ks.map (kindA true):=by simp [kcpL]
  rw [hfin] at hM
  subst hM
  (repeat (first | refine WK ?_ | refine All.i fun X=>?_ | refine AllY.i fun Y=>?_))
  (refine AWP.ret ?_;(repeat (first | refine inB_r ?_ | refine andThen_r ?_));refine retQ_r ?_)
  exact ⟨[.sl K 0 (ks.map (kindA false)).length],[kindsA true true ks],_,[],.cons (.tmp rfl) rfl .nil,.cons (.cell (.sl (p:=0) .here (by simp))) .nil,by exact Sub.f,rfl,rfl⟩
def fillTo {α:Type} (f:α → AV) (z:AV) (l:List α) (i:Nat):List AV:=(l.take i).map f ++ List.replicate (l.length - i) z
theorem fillTo_zero {α:Type} (f:α → AV) (z:AV) (l:List α):fillTo f z l 0 = List.replicate l.length z:=by simp [fillTo]
theorem fillTo_at {α:Type} (f:α → AV) (z:AV) (l:List α) {i:Nat} (h:i < l.length):(fillTo f z l i)[i]? = some z:=by
 unfold fillTo
 rw [List.getElem?_append_right (by simp;omega)]
 simp only [List.length_map,List.length_take,Nat.min_eq_left (Nat.le_of_lt h),Nat.sub_self]
 rw [List.getElem?_replicate,if_pos (by omega)]
theorem fillTo_set {α:Type} (f:α → AV) (z:AV) (l:List α) {i:Nat} (h:i < l.length):(fillTo f z l i).set i (f l[i]) = fillTo f z l (i + 1):=by
 unfold fillTo
 rw [List.set_append_right _ _ (by simp;omega),List.take_add_one,List.getElem?_eq_getElem h]
 simp only [List.length_map,List.length_take,Nat.min_eq_left (Nat.le_of_lt h),Nat.sub_self,Option.toList_some,List.map_append,List.map_cons,List.map_nil,List.append_assoc]
 congr 1
 rw [show l.length - i = (l.length - (i + 1)) + 1 from by omega,List.replicate_succ]
 rfl
theorem fillTo_all {α:Type} (f:α → AV) (z:AV) (l:List α) {i:Nat} (h:l.length ≤ i):fillTo f z l i = l.map f:=by
 unfold fillTo
 rw [List.take_of_length_le h,show l.length - i = 0 from by omega]
 simp
theorem copyComps_ps (l:List Comp) (hl:l.length ≤ 1099511627776) (hv:∀ c ∈ l,c.vals.length ≤ 1099511627776):PS Try.prog 39 [compsA false false l] (compsA true false l):=by
 refine Spec.of (nt:=27) (res:=[.tmp 2]) Try.func39 rfl (by kernel_rfl) rfl rfl rfl fun Sf=>?_
 have hl':(l.map (compA false)).length ≤ 1099511627776:=by simpa using hl
 (repeat (first | (refine AOps.gN ?_;first | (refine AOps.g_make ?_;refine AOps.goM (.agg [iA 0,.prim (.slice none 0 0)]) fun K=>?_)) | refine WK ?_ | refine All.i fun X=>?_ | refine AllY.i fun Y=>?_))
 refine AWP.lp (fun i:Nat=>⟨[(3,.sl K 0 (l.map (compA false)).length),(9,compsA false false l),(10,iA (l.map (compA false)).length),(11,iA i)],(K,.row 58 2 (fillTo (compA false) (.agg [iA 0,.prim (.slice none 0 0)]) l i)) :: Sf⟩) (fun i=>i ≤ l.length) (fun i=>l.length - i) 0 (Nat.zero_le _) ?_ ⟨by (repeat (first | exact .nil | refine .cons (by first | rfl | assumption) ?_)),by rw [fillTo_zero,← List.length_map (f:=compA false)];exact Sub.f⟩
 rintro i hi
 (repeat (first | refine WK ?_ | refine All.i fun X=>?_ | refine AllY.i fun Y=>?_))
 refine AWP.cond rfl (fun hc=>?_) (fun hc=>?_)
 ·have h:i < l.length:=by simpa using hc
  have hm:i < (l.map (compA false)).length:=by simpa using h
  have hat:=fillTo_at (compA false) (.agg [iA 0,.prim (.slice none 0 0)]) l h
  (repeat (first | refine WK ?_ | refine All.i fun X=>?_ | refine AllY.i fun Y=>?_))
  (repeat refine WF ?_);refine AWP.region_run (by kernel_rfl) (by kernel_rfl) ?_;(repeat (first | (refine RGo.gN ?_;first | (refine RGo.g_callf ?_;first | refine RGo.c1 (h:=(cloneI_ps _ (by have:=hv _ (List.getElem_mem h);omega))) (k:=?_))) | (refine RGo.gQ ?_;first | (refine RGo.g_callf ?_;first | refine RGo.c1 (h:=(cloneI_ps _ (by have:=hv _ (List.getElem_mem h);omega))) (k:=?_))) | refine RK ?_ | refine RGo.nil (by kernel_rfl) ?_))
  (repeat (first | refine WK ?_ | refine All.i fun X=>?_ | refine AllY.i fun Y=>?_))
  have hs:=fillTo_set (compA false) (.agg [iA 0,.prim (.slice none 0 0)]) l h
  refine lp_nextS (i + 1) h ?_
  dsimp only
  rw [← hs]
  exact Sub.f
 ·have h:l.length ≤ i:=by rw [decide_eq_false_iff_not,List.length_map] at hc;omega
  rw [fillTo_all _ _ _ h]
  (repeat (first | refine WK ?_ | refine All.i fun X=>?_ | refine AllY.i fun Y=>?_))
  (refine AWP.ret ?_;(repeat (first | refine inB_r ?_ | refine andThen_r ?_));refine retQ_r ?_)
  exact ⟨[.sl K 0 (l.map (compA false)).length],[.lst true 58 2 (l.map (compA false))],_,[],.cons (.tmp rfl) rfl .nil,.cons (.cell (.sl (p:=0) .here rfl)) .nil,by exact Sub.f,rfl,rfl⟩
def nextV (l:List Int) (n:Int):Int:=if n < 1 then 0 else match l with | []=>0 | x :: _=>x % n
def nextL (l:List Int) (n:Int):List Int:=if n < 1 then l else l.tail
theorem nextV_range (l:List Int) {n:Int} (h:1 ≤ n):0 ≤ nextV l n ∧ nextV l n < n:=by
 unfold nextV
 rw [if_neg (by omega)]
 split
 ·omega
 ·rename_i x _
  exact ⟨Int.emod_nonneg x (by omega),Int.emod_lt_of_pos x (by omega)⟩
def kindName (k:Nat):List UInt8:=match k with
 | 0=>[115,112,111,116]
 | 1=>[108,105,102,101]
 | 2=>[116,101,97,109]
 | _=>[103,111,97,108]
def fieldName (k:Nat):List UInt8:=match k with
 | 0=>[120]
 | 1=>[121]
 | _=>[122]
def genField (i:Nat) (l:List Int):Field × List Int :=
 if nextV (nextL (nextL l 9) 40) 8 = 7 then (⟨fieldName i,32,-2147483648⟩,nextL (nextL (nextL l 9) 40) 8)
 else (⟨fieldName i,1 + nextV l 9,nextV (nextL l 9) 40 - 30⟩,nextL (nextL (nextL l 9) 40) 8)
def genFields:Nat → Nat → List Int → List Field × List Int
 | _,0,l=>([],l)
 | i,c + 1,l=>((genField i l).1 :: (genFields (i + 1) c (genField i l).2).1,(genFields (i + 1) c (genField i l).2).2)
def genKind (k:Nat) (l:List Int):Kind × List Int :=
 (⟨kindName k,(genFields 0 (1 + nextV l 3).toNat (nextL l 3)).1⟩,(genFields 0 (1 + nextV l 3).toNat (nextL l 3)).2)
def genKindsFrom:Nat → Nat → List Int → List Kind × List Int
 | _,0,l=>([],l)
 | k,c + 1,l=>((genKind k l).1 :: (genKindsFrom (k + 1) c (genKind k l).2).1,(genKindsFrom (k + 1) c (genKind k l).2).2)
def genKinds (l:List Int):List Kind × List Int:=genKindsFrom 0 (1 + nextV l 4).toNat (nextL l 4)
theorem below_ps (x n:Int) (hn:1 ≤ n) (h2:n ≤ 4611686018427387904):PS Try.prog 10 [iA x,iA n] (iA (x % n)):=by
 refine Spec.of (nt:=14) (res:=[.tmp 4]) Try.func10 rfl (by kernel_rfl) rfl rfl rfl fun Sf=>?_
 have h3:x.tmod n < n:=Int.tmod_lt_of_pos _ (by omega)
 have h4 : -n < x.tmod n:=by
  have:=Int.lt_tmod_of_pos x (b:=n) (by omega)
  exact this
 have h5:x.tmod n = x % n ∨ x.tmod n + n = x % n ∧ x.tmod n < 0:=by
  rw [Int.tmod_eq_emod]
  split
  ·exact .inl (by simp)
  ·have:=Int.emod_nonneg x (b:=n) (by omega)
   have:=Int.emod_lt_of_pos x (b:=n) (by omega)
   refine .inr ?_
   have:((n.natAbs:Nat):Int) = n:=by omega
   omega
 have h6:=Int.emod_nonneg x (b:=n) (by omega)
 (repeat (first | (refine AOps.gN ?_;first | refine AOps.p (W.rem rfl rfl (by omega)) rfl ?_) | refine WK ?_ | refine All.i fun X=>?_ | refine AllY.i fun Y=>?_))
 refine AWP.cond rfl (fun hb=>?_) (fun hb=>?_)
 ·have hb:x.tmod n < 0:=by simpa using hb
  (repeat (first | refine WK ?_ | refine All.i fun X=>?_ | refine AllY.i fun Y=>?_))
  (refine AWP.ret ?_;(repeat (first | refine inB_r ?_ | refine andThen_r ?_));refine retQ_r ?_)
  exact Ends.plain rfl rfl (by exact Sub.f) ⟨by rw [show x.tmod n + n = x % n from by omega],rfl⟩
 ·have hb:¬ x.tmod n < 0:=by simpa using hb
  (repeat (first | refine WK ?_ | refine All.i fun X=>?_ | refine AllY.i fun Y=>?_))
  (refine AWP.ret ?_;(repeat (first | refine inB_r ?_ | refine andThen_r ?_));refine retQ_r ?_)
  exact Ends.plain rfl rfl (by exact Sub.f) ⟨by rw [show x.tmod n = x % n from by omega],rfl⟩
abbrev streamO (l:List Int):AO:=.row 76 1 [.agg [intsA false l]]
theorem next_po (X:Nat) (l:List Int) (n:Int) (h2:n ≤ 4611686018427387904):PO Try.prog 34 [.ptr X 0 0,iA n] X (streamO l) (iA (nextV l n)) (streamO (nextL l n)):=by
 refine Spec.of (nt:=33) (res:=[.tmp 4]) Try.func34 rfl (by kernel_rfl) rfl rfl rfl fun Sf=>?_
 (repeat (first | refine WK ?_ | refine All.i fun X=>?_ | refine AllY.i fun Y=>?_))
 refine AWP.cond rfl (fun hb=>?_) (fun hb=>?_)
 ·(repeat (first | refine WK ?_ | refine All.i fun X=>?_ | refine AllY.i fun Y=>?_))
  (refine AWP.ret ?_;(repeat (first | refine inB_r ?_ | refine andThen_r ?_));refine retQ_r ?_)
  have hb:l.length = 0 ∨ n < 1:=by simp only [Bool.or_eq_true,decide_eq_true_eq,List.length_map] at hb;omega
  have e1:nextV l n = 0:=by
   unfold nextV
   split
   ·rfl
   ·rcases hb with hb | hb
    ·rw [List.length_eq_zero_iff.1 hb]
    ·omega
  have e2:nextL l n = l:=by
   unfold nextL
   split
   ·rfl
   ·rcases hb with hb | hb
    ·rw [List.length_eq_zero_iff.1 hb];rfl
    ·omega
  rw [e1,e2]
  exact Ends.plainS rfl rfl (by exact Sub.f) ⟨rfl,rfl⟩
 ·have hb:l.length ≠ 0 ∧ 1 ≤ n:=by simp only [Bool.or_eq_false_iff,decide_eq_false_iff_not,List.length_map] at hb;omega
  obtain ⟨hb,hn⟩:=hb
  cases l with
  | nil=>exact absurd rfl hb
  | cons x l =>
  (repeat (first | (refine AOps.gN ?_;first | refine AOps.p (W.idxL rfl rfl (a:=0) rfl rfl) rfl ?_ | refine AOps.p (W.loL rfl rfl (a:=1) rfl (by simp)) rfl ?_ | refine AOps.p (W.call2 rfl rfl (below_ps _ _ hn h2) rfl) rfl ?_) | refine WK ?_ | refine All.i fun X=>?_ | refine AllY.i fun Y=>?_))
  (refine AWP.ret ?_;(repeat (first | refine inB_r ?_ | refine andThen_r ?_));refine retQ_r ?_)
  rw [show nextV (x :: l) n = x % n from by unfold nextV;rw [if_neg (by omega)],show nextL (x :: l) n = l from by unfold nextL;rw [if_neg (by omega)];rfl]
  exact Ends.plainS (S':=[(X,streamO l)]) rfl rfl (by exact Sub.f) ⟨rfl,rfl⟩
def fAt:Nat → List Int → List Field × List Int
 | 0,l=>([],l)
 | i + 1,l=>((fAt i l).1 ++ [(genField i (fAt i l).2).1],(genField i (fAt i l).2).2)
def kAt:Nat → List Int → List Kind × List Int
 | 0,l=>([],l)
 | i + 1,l=>((kAt i l).1 ++ [(genKind i (kAt i l).2).1],(genKind i (kAt i l).2).2)
theorem fAt_len (i:Nat) (l:List Int):(fAt i l).1.length = i:=by
 induction i with
 | zero=>rfl
 | succ i ih=>simp [fAt,ih]
theorem kAt_len (i:Nat) (l:List Int):(kAt i l).1.length = i:=by
 induction i with
 | zero=>rfl
 | succ i ih=>simp [kAt,ih]
theorem fAt_gen (c i:Nat) (l:List Int):((fAt i l).1 ++ (genFields i c (fAt i l).2).1,(genFields i c (fAt i l).2).2) = fAt (i + c) l:=by
 induction c generalizing i with
 | zero=>simp [genFields]
 | succ c ih =>
  rw [show i + (c + 1) = (i + 1) + c from by omega,← ih (i + 1)]
  simp [genFields,fAt]
theorem kAt_gen (c i:Nat) (l:List Int):((kAt i l).1 ++ (genKindsFrom i c (kAt i l).2).1,(genKindsFrom i c (kAt i l).2).2) = kAt (i + c) l:=by
 induction c generalizing i with
 | zero=>simp [genKindsFrom]
 | succ c ih =>
  rw [show i + (c + 1) = (i + 1) + c from by omega,← ih (i + 1)]
  simp [genKindsFrom,kAt]
theorem genFields_at (c:Nat) (l:List Int):genFields 0 c l = fAt c l:=by
 have:=fAt_gen c 0 l
 simpa [fAt] using this
theorem genKinds_at (l:List Int):genKinds l = kAt (1 + nextV l 4).toNat (nextL l 4):=by
 have:=kAt_gen (1 + nextV l 4).toNat 0 (nextL l 4)
 simpa [kAt,genKinds] using this
theorem knames_at {i:Nat} (h:i < 4):[sA [115,112,111,116],sA [108,105,102,101],sA [116,101,97,109],sA [103,111,97,108]][i]? = some (sA (kindName i)):=by
 have:i = 0 ∨ i = 1 ∨ i = 2 ∨ i = 3:=by omega
 rcases this with rfl | rfl | rfl | rfl <;> rfl
theorem fnames_at {i:Nat} (h:i < 3):[sA [120],sA [121],sA [122]][i]? = some (sA (fieldName i)):=by
 have:i = 0 ∨ i = 1 ∨ i = 2:=by omega
 rcases this with rfl | rfl | rfl <;> rfl
theorem kinds_po (G:Nat) (l:List Int):PO Try.prog 33 [.ptr G 0 0] G (streamO l) (kindsA true false (genKinds l).1) (streamO (genKinds l).2):=by
 refine Spec.of (nt:=55) (res:=[.tmp 2]) Try.func33 rfl (by kernel_rfl) rfl rfl rfl fun Sf=>?_
 have h0:=nextV_range l (n:=4) (by decide)
 (repeat (first | (refine AOps.gN ?_;first | (refine AOps.g_callf ?_;first | refine AOps.o2 (h:=(next_po G _ _ (by decide))) (k:=?_))) | refine WK ?_ | refine All.i fun X=>?_ | refine AllY.i fun Y=>?_))
 refine AWP.adopt (d:=3) 107 2 rfl fun K=>?_
 obtain ⟨c,hc⟩:∃ c:Nat,1 + nextV l 4 = c:=⟨(1 + nextV l 4).toNat,by omega⟩
 obtain ⟨l0,hl0⟩:∃ l0,nextL l 4 = l0:=⟨_,rfl⟩
 have hg:genKinds l = kAt c l0:=by rw [genKinds_at,hl0,show (1 + nextV l 4).toNat = c from by omega]
 rw [hg,hl0,hc]
 have hc4:1 ≤ c ∧ c ≤ 4:=by omega
 clear hg hl0 hc h0
 refine AWP.lp4 (fun (i K:Nat) (M:List AV) (q:List Int)=>⟨[(0,.ptr G 0 0),(3,.sl K 0 i),(10,iA c),(11,iA i)],(K,.row 107 2 M) :: (G,streamO q) :: Sf⟩) (fun i _ M q=>i ≤ c ∧ M = (kAt i l0).1.map (kindA false) ∧ M.length = i ∧ q = (kAt i l0).2) (fun i _ _ _=>c - i) 0 K [] l0 ⟨Nat.zero_le _,rfl,rfl,rfl⟩ ?_
 rintro i K M q ⟨hi,hM,hMl,hq⟩
 (repeat (first | refine WK ?_ | refine All.i fun X=>?_ | refine AllY.i fun Y=>?_))
 refine AWP.cond rfl (fun hb=>?_) (fun hb=>?_)
 ·have h:i < c:=by rw [decide_eq_true_eq] at hb;omega
  have h4:i < 4:=by omega
  have h3:=nextV_range q (n:=3) (by decide)
  have hkn:=knames_at h4
  (repeat (first | (refine AOps.gN ?_;first | (refine AOps.g_callf ?_;first | refine AOps.o2 (h:=(next_po G _ _ (by decide))) (k:=?_))) | refine WK ?_ | refine All.i fun Y=>?_ | refine AllY.i fun Y=>?_))
  refine AWP.adoptIn (Y:=Y) 104 3 .here (fun F=>.cons (.agg (.cons .same (.cons (.base .nil) .nil))) .nil) fun F=>?_
  obtain ⟨l1,hl1⟩:∃ l1,nextL q 3 = l1:=⟨_,rfl⟩
  obtain ⟨c1,hc1⟩:∃ c1:Nat,1 + nextV q 3 = c1:=⟨(1 + nextV q 3).toNat,by omega⟩
  have hgk:kAt (i + 1) l0 = ((kAt i l0).1 ++ [⟨kindName i,(fAt c1 l1).1⟩],(fAt c1 l1).2):=by
   rw [kAt,← hq,genKind,genFields_at,show (1 + nextV q 3).toNat = c1 from by omega,hl1]
  rw [hl1,hc1]
  have hc13:c1 ≤ 3:=by omega
  refine AWP.lp4 (fun (j F:Nat) (L:List AV) (r:List Int)=>⟨[(0,.ptr G 0 0),(3,.sl K 0 i),(5,.ptr Y 0 0),(10,iA c),(11,iA i),(21,iA c1),(22,iA j)],(F,.row 104 3 L) :: (Y,.row 107 2 [.agg [sA (kindName i),.sl F 0 j]]) :: (K,.row 107 2 M) :: (G,streamO r) :: Sf⟩) (fun j _ L r=>j ≤ c1 ∧ L = (fAt j l1).1.map fieldA ∧ L.length = j ∧ r = (fAt j l1).2) (fun j _ _ _=>c1 - j) 0 F [] l1 ⟨Nat.zero_le _,rfl,rfl,rfl⟩ ?_
  rintro j F L r ⟨hj,hL,hLl,hr⟩
  (repeat (first | refine WK ?_ | refine All.i fun X=>?_ | refine AllY.i fun Y=>?_))
  refine AWP.cond rfl (fun hd=>?_) (fun hd=>?_)
  ·have hj':j < c1:=by rw [decide_eq_true_eq] at hd;omega
   have h9:=nextV_range r (n:=9) (by decide)
   have h40:=nextV_range (nextL r 9) (n:=40) (by decide)
   have hfn:=fnames_at (i:=j) (by omega)
   (repeat (first | refine WK ?_ | refine All.i fun X=>?_ | refine AllY.i fun Y=>?_))
   refine AWP.rs fun X7=>?_
   (repeat refine WF ?_);refine AWP.region_run (by kernel_rfl) (by kernel_rfl) ?_;(repeat (first | (refine RGo.gN ?_;first | (refine RGo.g_callf ?_;first | refine RGo.o2 (h:=(next_po G _ _ (by decide))) (k:=?_))) | (refine RGo.gQ ?_;first | (refine RGo.g_callf ?_;first | refine RGo.o2 (h:=(next_po G _ _ (by decide))) (k:=?_))) | refine RK ?_ | refine RGo.nil (by kernel_rfl) ?_))
   (repeat (first | (refine AOps.gN ?_;first | (refine AOps.g_callf ?_;first | refine AOps.o2 (h:=(next_po G _ _ (by decide))) (k:=?_))) | refine WK ?_ | refine All.i fun X=>?_ | refine AllY.i fun Y=>?_))
   refine AWP.cond rfl (fun he=>?_) (fun he=>?_)
   ·have he:nextV (nextL (nextL r 9) 40) 8 = 7:=by simpa using he
    have hg:genField j r = (⟨fieldName j,32,-2147483648⟩,nextL (nextL (nextL r 9) 40) 8):=by rw [genField,if_pos he]
    (repeat (first | (refine AOps.gN ?_;first | (refine AOps.g_lit ?_;refine AOps.goL (fieldA ⟨fieldName j,32,-2147483648⟩) ?_)) | refine WK ?_ | refine All.i fun X=>?_ | refine AllY.i fun Y=>?_))
    refine lp_next4 (j + 1) Y _ _ ⟨hj',?_,?_,?_⟩
    ·rw [fAt,← hr,hg,hL,List.map_append];rfl
    ·rw [List.length_append,hLl];rfl
    ·rw [fAt,← hr,hg]
   ·have he:nextV (nextL (nextL r 9) 40) 8 ≠ 7:=by simpa using he
    have hg:genField j r = (⟨fieldName j,1 + nextV r 9,nextV (nextL r 9) 40 - 30⟩,nextL (nextL (nextL r 9) 40) 8):=by rw [genField,if_neg he]
    (repeat (first | (refine AOps.gN ?_;first | (refine AOps.g_lit ?_;refine AOps.goL (fieldA ⟨fieldName j,1 + nextV r 9,nextV (nextL r 9) 40 - 30⟩) ?_)) | refine WK ?_ | refine All.i fun X=>?_ | refine AllY.i fun Y=>?_))
    refine lp_next4 (j + 1) Y _ _ ⟨hj',?_,?_,?_⟩
    ·rw [fAt,← hr,hg,hL,List.map_append];rfl
    ·rw [List.length_append,hLl];rfl
    ·rw [fAt,← hr,hg]
  ·have hj':j = c1:=by rw [decide_eq_false_iff_not] at hd;omega
   subst hj'
   (repeat first | refine AOps.nil ?_ | refine WF ?_)
   refine AWP.iceIn (X:=F) (Y:=Y) .here (.next .here) rfl (.cons (.agg (.cons .same (.cons (.base (.sl (by omega))) .nil))) .nil) ?_
   have hF:AV.frzs ((L.drop 0).take j) = (fAt j l1).1.map fieldA:=by
    rw [List.drop_zero,List.take_of_length_le (by omega),hL]
    exact Frzs.h
   rw [hF]
   (repeat (first | (refine AOps.gN ?_;first | (refine AOps.g_lit ?_;refine AOps.goL (kindA false ⟨kindName i,(fAt j l1).1⟩) ?_)) | refine WK ?_ | refine All.i fun X=>?_ | refine AllY.i fun Y=>?_))
   refine lp_next4 (i + 1) Y _ _ ⟨h,?_,?_,?_⟩
   ·rw [hgk,hM,List.map_append];rfl
   ·rw [List.length_append,hMl];rfl
   ·rw [hgk,hr]
 ·have h:i = c:=by rw [decide_eq_false_iff_not] at hb;omega
  subst h
  (repeat (first | refine WK ?_ | refine All.i fun X=>?_ | refine AllY.i fun Y=>?_))
  (refine AWP.ret ?_;(repeat (first | refine inB_r ?_ | refine andThen_r ?_));refine retQ_r ?_)
  subst hM hq
  refine ⟨[.sl K 0 i],[.lst true 107 2 ((kAt i l0).1.map (kindA false))],_,[(G,streamO (kAt i l0).2)],.cons (.tmp rfl) rfl .nil,.cons (.cell (.sl (p:=0) .here (by rw [List.length_map,kAt_len]))) .nil,by exact Sub.f,rfl,rfl⟩
def baseKind:Kind:=⟨[108,105,102,101],[⟨[120],8,0⟩]⟩
def baseWd:Wd:=⟨[baseKind],[0],[⟨⟨0,0⟩,[⟨0,[9]⟩]⟩]⟩
theorem base_ps:PS Try.prog 25 [] (wdA false baseWd):=by
 refine Spec.of (nt:=14) (res:=[.cell 0 39]) Try.func25 rfl (by kernel_rfl) rfl rfl rfl fun Sf=>?_
 (repeat (first | refine WK ?_ | refine All.i fun X=>?_ | refine AllY.i fun Y=>?_))
 (refine AWP.ret ?_;(repeat (first | refine inB_r ?_ | refine andThen_r ?_));refine retQ_r ?_)
 refine Ends.id (rs:=[wdA false baseWd]) rfl (.cons (.cell (p:=0) rfl .here TAg.h TSize.h rfl rfl) rfl .nil)
theorem equalI_ps (a b:List Int) (hl:a.length ≤ 1099511627776):PS Try.prog 12 [intsA false a,intsA false b] (bA (decide (a = b))):=by
 refine Spec.of (nt:=26) (res:=[.tmp 4]) Try.func12 rfl (by kernel_rfl) rfl rfl rfl fun Sf=>?_
 (repeat (first | refine WK ?_ | refine All.i fun X=>?_ | refine AllY.i fun Y=>?_))
 refine AWP.cond rfl (fun hb=>?_) (fun hb=>?_)
 ·have hb:a.length ≠ b.length:=by simp at hb;omega
  (repeat (first | refine WK ?_ | refine All.i fun X=>?_ | refine AllY.i fun Y=>?_))
  (refine AWP.ret ?_;(repeat (first | refine inB_r ?_ | refine andThen_r ?_));refine retQ_r ?_);refine Ends.ps ?_
  rw [decide_eq_false fun e=>hb (by rw [e])]
 ·have hb:a.length = b.length:=by simp at hb;omega
  (repeat (first | refine WK ?_ | refine All.i fun X=>?_ | refine AllY.i fun Y=>?_))
  refine AWP.lp (fun i:Nat=>⟨[(0,intsA false a),(1,intsA false b),(12,iA (a.map iA).length),(13,iA i)],Sf⟩) (fun i=>i ≤ a.length ∧ ∀ j (h:j < a.length),j < i → a[j] = b[j]'(by omega)) (fun i=>a.length - i) 0 ⟨Nat.zero_le _,fun j h hj=>absurd hj (by omega)⟩ ?_
  rintro i ⟨hi,he⟩
  (repeat (first | refine WK ?_ | refine All.i fun X=>?_ | refine AllY.i fun Y=>?_))
  refine AWP.cond rfl (fun hc=>?_) (fun hc=>?_)
  ·have h:i < a.length:=by simpa using hc
   have h':i < b.length:=by omega
   (repeat (first | refine WK ?_ | refine All.i fun X=>?_ | refine AllY.i fun Y=>?_))
   (repeat refine WF ?_);refine AWP.region_run (by kernel_rfl) (by kernel_rfl) ?_;(repeat (first | refine RK ?_ | refine RGo.nil (by kernel_rfl) ?_))
   (repeat (first | refine WK ?_ | refine All.i fun X=>?_ | refine AllY.i fun Y=>?_))
   refine AWP.cond rfl (fun hd=>?_) (fun hd=>?_)
   ·have hd:a[i] ≠ b[i]:=by simpa using hd
    (repeat (first | refine WK ?_ | refine All.i fun X=>?_ | refine AllY.i fun Y=>?_))
    (refine AWP.ret ?_;(repeat (first | refine inB_r ?_ | refine andThen_r ?_));refine retQ_r ?_);refine Ends.ps ?_
    rw [decide_eq_false fun e=>hd (by subst e;rfl)]
   ·have hd:a[i] = b[i]:=by simpa using hd
    (repeat (first | refine WK ?_ | refine All.i fun X=>?_ | refine AllY.i fun Y=>?_))
    refine lp_next (i + 1) ⟨h,fun j h1 h2=>?_⟩
    by_cases e:j = i
    ·subst e;exact hd
    ·exact he j h1 (by omega)
  ·have h:¬ i < a.length:=by simpa using hc
   (repeat (first | refine WK ?_ | refine All.i fun X=>?_ | refine AllY.i fun Y=>?_))
   (refine AWP.ret ?_;(repeat (first | refine inB_r ?_ | refine andThen_r ?_));refine retQ_r ?_);refine Ends.ps ?_
   rw [decide_eq_true (List.ext_getElem hb fun j h1 h2=>he j h1 (by omega))]
def KsL (ks:List Kind):Prop:=ks.length ≤ 1099511627776 ∧ ∀ k ∈ ks,k.fields.length ≤ 1099511627776
def CsL (cs:List Comp):Prop:=cs.length ≤ 1099511627776 ∧ ∀ c ∈ cs,c.vals.length ≤ 1099511627776
def ItL (l:List Item):Prop:=l.length ≤ 1099511627776 ∧ ∀ it ∈ l,CsL it.comps
structure WdL (w:Wd):Prop where
 ks:KsL w.kinds
 gens:w.gens.length ≤ 1099511627776
 items:ItL w.items
theorem chOk_int (s:List UInt8) (i:Nat):chOk s i = (decide ((97:Int) ≤ (s.getD i 0).toNat) && decide (((s.getD i 0).toNat:Int) ≤ 122) || decide ((0:Int) < i) && decide ((48:Int) ≤ (s.getD i 0).toNat) && decide (((s.getD i 0).toNat:Int) ≤ 57)):=by
 have h:∀ a b:UInt8,decide (a ≤ b) = decide ((a.toNat:Int) ≤ b.toNat):=fun a b=>by simp [UInt8.le_iff_toNat_le]
 have h0:decide (0 < i) = decide ((0:Int) < i):=by simp
 simp only [chOk,lowc,digc,h,h0,Bool.and_assoc]
 rfl
theorem name_ps (s:List UInt8):PS Try.prog 130 [sA s] (bA (nameOk s)):=by
 refine Spec.of (nt:=41) (res:=[.tmp 2]) Try.func130 rfl (by kernel_rfl) rfl rfl rfl fun Sf=>?_
 (repeat (first | refine WK ?_ | refine All.i fun X=>?_ | refine AllY.i fun Y=>?_))
 refine AWP.cond rfl (fun hb=>?_) (fun hb=>?_)
 ·(repeat (first | refine WK ?_ | refine All.i fun X=>?_ | refine AllY.i fun Y=>?_))
  (refine AWP.ret ?_;(repeat (first | refine inB_r ?_ | refine andThen_r ?_));refine retQ_r ?_)
  refine Ends.plain rfl rfl (by exact Sub.f) ⟨?_,rfl⟩
  rw [nameOk_long s (by simp only [Bool.or_eq_true,decide_eq_true_eq] at hb;omega)]
 have hb1:s.length ≠ 0 ∧ s.length ≤ 16:=by simp only [Bool.or_eq_false_iff,decide_eq_false_iff_not] at hb;omega
 (repeat (first | refine AWP.loopR (fun i:Nat=>⟨[(0,sA s),(14,iA s.length),(15,iA i)],Sf⟩) (fun i=>i ≤ s.length ∧ ∀ j,j < i → chOk s j = true) (fun i=>s.length - i) 0 ⟨by omega,by omega⟩ ⟨.cons rfl (.cons rfl (.cons rfl .nil)),List.Sublist.refl _⟩ ?_ | refine WK ?_ | refine All.i fun X=>?_ | refine AllY.i fun Y=>?_))
 rintro i ⟨hi,hn⟩
 (repeat (first | refine WK ?_ | refine All.i fun X=>?_ | refine AllY.i fun Y=>?_))
 refine AWP.cond rfl (fun hb=>?_) (fun hb=>?_)
 ·have h:i < s.length:=by simpa using hb
  (repeat (first | (refine AOps.gN ?_;first | refine AOps.p (W.idxStr rfl rfl rfl h) rfl ?_) | refine WK ?_ | refine All.i fun X=>?_ | refine AllY.i fun Y=>?_))
  refine AWP.cond rfl (fun hc=>?_) (fun hc=>?_)
  ·(repeat (first | refine WK ?_ | refine All.i fun X=>?_ | refine AllY.i fun Y=>?_))
   (refine AWP.ret ?_;(repeat (first | refine inB_r ?_ | refine andThen_r ?_));refine retQ_r ?_)
   refine Ends.plain rfl rfl (by exact Sub.f) ⟨?_,rfl⟩
   rw [← chOk_int] at hc
   rw [nameOk_no s i h (by simpa using hc)]
  ·(repeat (first | refine WK ?_ | refine All.i fun X=>?_ | refine AllY.i fun Y=>?_))
   refine ⟨i + 1,⟨by omega,fun j hj=>?_⟩,by omega,.cons rfl (.cons rfl (.cons rfl .nil)),by exact Sub.f⟩
   rw [← chOk_int] at hc
   by_cases e:j = i
   ·subst e;simpa using hc
   ·exact hn j (by omega)
 ·have h:¬ i < s.length:=by simpa using hb
  (repeat (first | refine WK ?_ | refine All.i fun X=>?_ | refine AllY.i fun Y=>?_))
  (refine AWP.ret ?_;(repeat (first | refine inB_r ?_ | refine andThen_r ?_));refine retQ_r ?_)
  refine Ends.plain rfl rfl (by exact Sub.f) ⟨?_,rfl⟩
  rw [nameOk_yes s (by omega) hb1.2 fun j hj=>hn j (by omega)]
theorem field_ps (f:Field):PS Try.prog 131 [fieldA f] (iA (fieldErr f)):=by
 refine Spec.of (nt:=27) (res:=[.tmp 2]) Try.func131 rfl (by kernel_rfl) rfl rfl rfl fun Sf=>?_
 (repeat (first | (refine AOps.gN ?_;first | refine AOps.p (W.call1 rfl (name_ps _) rfl) rfl ?_) | refine WK ?_ | refine All.i fun X=>?_ | refine AllY.i fun Y=>?_))
 refine AWP.cond rfl (fun hb=>?_) (fun hb=>?_)
 ·(repeat (first | refine WK ?_ | refine All.i fun X=>?_ | refine AllY.i fun Y=>?_))
  (refine AWP.ret ?_;(repeat (first | refine inB_r ?_ | refine andThen_r ?_));refine retQ_r ?_)
  refine Ends.plain rfl rfl (by exact Sub.f) ⟨?_,rfl⟩
  rw [fieldErr_no f fun hn hk=>?_]
  simp only [hn,Bool.not_true,Bool.false_or,Bool.or_eq_true,decide_eq_true_eq] at hb
  omega
 ·(repeat (first | refine WK ?_ | refine All.i fun X=>?_ | refine AllY.i fun Y=>?_))
  (refine AWP.ret ?_;(repeat (first | refine inB_r ?_ | refine andThen_r ?_));refine retQ_r ?_)
  refine Ends.plain rfl rfl (by exact Sub.f) ⟨?_,rfl⟩
  simp only [Bool.or_eq_false_iff,Bool.not_eq_false',decide_eq_false_iff_not] at hb
  rw [fieldErr_ok f hb.1.1.1.1 (by omega)]
theorem high_ps (f:Field):PS Try.prog 150 [fieldA f] (iA (highOf f)):=by
 refine Spec.of (nt:=13) (res:=[.tmp 2]) Try.func150 rfl (by kernel_rfl) rfl rfl rfl fun Sf=>?_
 (repeat (first | (refine AOps.gN ?_;first | refine AOps.p (W.call1 rfl (field_ps _) rfl) rfl ?_) | refine WK ?_ | refine All.i fun X=>?_ | refine AllY.i fun Y=>?_))
 refine AWP.cond rfl (fun hb=>?_) (fun hb=>?_)
 ·have hb:fieldErr f ≠ 0:=by simpa using hb
  (repeat (first | refine WK ?_ | refine All.i fun X=>?_ | refine AllY.i fun Y=>?_))
  (refine AWP.ret ?_;(repeat (first | refine inB_r ?_ | refine andThen_r ?_));refine retQ_r ?_)
  refine Ends.plain rfl rfl (by exact Sub.f) ⟨?_,rfl⟩
  simp [highOf,hb]
 have hb:fieldErr f = 0:=by simpa using hb
 have h1:=(fieldErr_eq_zero f).1 hb
 obtain ⟨n,hn⟩:∃ n:Nat,f.bits = n:=⟨f.bits.toNat,by omega⟩
 have hp:(2:Int) ^ n ≤ 4294967296 ∧ 1 ≤ (2:Int) ^ n:=by
  have hn2:n ≤ 32:=by omega
  clear hn
  have:∀ n,n ≤ 32 → (2:Int) ^ n ≤ 4294967296 ∧ 1 ≤ (2:Int) ^ n:=by decide
  exact this n hn2
 have hw:IntKind.i64.wrap (1 * 2 ^ n) = 2 ^ n:=by rw [Int.one_mul];exact wrap_id (by omega) (by omega)
 (repeat (first | refine WK ?_ | refine All.i fun X=>?_ | refine AllY.i fun Y=>?_))
 (repeat refine WF ?_);refine AWP.region_run (by kernel_rfl) (by kernel_rfl) ?_;(repeat (first | (refine RGo.gN ?_;first | refine RGo.p (W.shl rfl rfl hn (by show n ≤ 64;omega)) rfl ?_ | refine RGo.p (W.sub rfl rfl (by rw [hw];omega)) rfl ?_ | refine RGo.p (W.add rfl rfl (by rw [hw];omega)) rfl ?_) | (refine RGo.gQ ?_;first | refine RGo.p (W.shl rfl rfl hn (by show n ≤ 64;omega)) rfl ?_ | refine RGo.p (W.sub rfl rfl (by rw [hw];omega)) rfl ?_ | refine RGo.p (W.add rfl rfl (by rw [hw];omega)) rfl ?_) | refine RK ?_ | refine RGo.nil (by kernel_rfl) ?_))
 (repeat (first | refine WK ?_ | refine All.i fun X=>?_ | refine AllY.i fun Y=>?_))
 (refine AWP.ret ?_;(repeat (first | refine inB_r ?_ | refine andThen_r ?_));refine retQ_r ?_)
 refine Ends.plain rfl rfl (by exact Sub.f) ⟨?_,rfl⟩
 simp only [hw]
 simp [highOf,hb,hn]
theorem near_ps (f:Field) (v:Int):PS Try.prog 145 [fieldA f,iA v] (iA (nearOf f v)):=by
 refine Spec.of (nt:=15) (res:=[.tmp 4]) Try.func145 rfl (by kernel_rfl) rfl rfl rfl fun Sf=>?_
 (repeat (first | (refine AOps.gN ?_;first | refine AOps.p (W.call1 rfl (field_ps _) rfl) rfl ?_) | refine WK ?_ | refine All.i fun X=>?_ | refine AllY.i fun Y=>?_))
 refine AWP.cond rfl (fun hb=>?_) (fun hb=>?_)
 ·have hb:fieldErr f ≠ 0:=by simpa using hb
  (repeat (first | refine WK ?_ | refine All.i fun X=>?_ | refine AllY.i fun Y=>?_))
  (refine AWP.ret ?_;(repeat (first | refine inB_r ?_ | refine andThen_r ?_));refine retQ_r ?_)
  refine Ends.plain rfl rfl (by exact Sub.f) ⟨?_,rfl⟩
  simp [nearOf,hb]
 have hb:fieldErr f = 0:=by simpa using hb
 (repeat (first | refine WK ?_ | refine All.i fun X=>?_ | refine AllY.i fun Y=>?_))
 (repeat refine WF ?_);refine AWP.region_run (by kernel_rfl) (by kernel_rfl) ?_;(repeat (first | (refine RGo.gN ?_;first | refine RGo.p (W.call1 rfl (high_ps _) rfl) rfl ?_) | (refine RGo.gQ ?_;first | refine RGo.p (W.call1 rfl (high_ps _) rfl) rfl ?_) | refine RK ?_ | refine RGo.nil (by kernel_rfl) ?_))
 (repeat (first | refine WK ?_ | refine All.i fun X=>?_ | refine AllY.i fun Y=>?_))
 (refine AWP.ret ?_;(repeat (first | refine inB_r ?_ | refine andThen_r ?_));refine retQ_r ?_)
 refine Ends.plain rfl rfl (by exact Sub.f) ⟨?_,rfl⟩
 rw [show nearOf f v = max f.low (min v (highOf f)) from by simp [nearOf,hb]]
 simp only [Int.max_def,Int.min_def]
 congr 2
 (repeat' split) <;> omega
theorem one_ps (k:Kind):PS Try.prog 93 [kindA false k] (iA (oneErr k)):=by
 refine Spec.of (nt:=45) (res:=[.tmp 2]) Try.func93 rfl (by kernel_rfl) rfl rfl rfl fun Sf=>?_
 (repeat (first | (refine AOps.gN ?_;first | refine AOps.p (W.call1 rfl (name_ps _) rfl) rfl ?_ | (refine AOps.rs fun X1=>?_;refine AOps.s (W.box rfl .here rfl) rfl ?_)) | refine WK ?_ | refine All.i fun X=>?_ | refine AllY.i fun Y=>?_))
 refine AWP.cond rfl (fun hb=>?_) (fun hb=>?_)
 ·(repeat (first | refine WK ?_ | refine All.i fun X=>?_ | refine AllY.i fun Y=>?_))
  (refine AWP.ret ?_;(repeat (first | refine inB_r ?_ | refine andThen_r ?_));refine retQ_r ?_)
  refine Ends.plain rfl rfl (by exact Sub.f) ⟨?_,rfl⟩
  have hb:nameOk k.name = false:=by simpa using hb
  rw [show oneErr k = 3 from by simp [oneErr,hb]]
 have hn:nameOk k.name = true:=by simpa using hb
 (repeat (first | refine WK ?_ | refine All.i fun X=>?_ | refine AllY.i fun Y=>?_))
 refine AWP.cond rfl (fun hb=>?_) (fun hb=>?_)
 ·(repeat (first | refine WK ?_ | refine All.i fun X=>?_ | refine AllY.i fun Y=>?_))
  (refine AWP.ret ?_;(repeat (first | refine inB_r ?_ | refine andThen_r ?_));refine retQ_r ?_)
  refine Ends.plain rfl rfl (by exact Sub.f) ⟨?_,rfl⟩
  have hb:8 < k.fields.length:=by rw [decide_eq_true_eq,List.length_map] at hb;omega
  rw [show oneErr k = 2 from by simp [oneErr,hn,hb]]
 have hl:k.fields.length ≤ 8:=by rw [decide_eq_false_iff_not,List.length_map] at hb;omega
 have e1:oneErr k = fieldsErr [] k.fields:=by simp [oneErr,hn];omega
 (repeat (first | refine AWP.loopR (fun i:Nat=>⟨[(1,.ptr X1 0 0),(17,fieldsA false k.fields),(18,iA (k.fields.map fieldA).length),(19,iA i)],(X1,.row 107 2 [kindA false k]) :: Sf⟩) (fun i=>i ≤ k.fields.length ∧ fieldsErr [] k.fields = fieldsErr (k.fields.take i) (k.fields.drop i)) (fun i=>k.fields.length - i) 0 ⟨by omega,rfl⟩ ⟨.cons rfl (.cons rfl (.cons rfl (.cons rfl .nil))),by exact Sub.f⟩ ?_ | refine WK ?_ | refine All.i fun X=>?_ | refine AllY.i fun Y=>?_))
 rintro i ⟨hi,he⟩
 (repeat (first | refine WK ?_ | refine All.i fun X=>?_ | refine AllY.i fun Y=>?_))
 refine AWP.cond rfl (fun hb=>?_) (fun hb=>?_)
 ·have h:i < k.fields.length:=by simpa using hb
  (repeat (first | (refine AOps.gN ?_;first | refine AOps.p (W.idxL rfl rfl rfl (map_at _ h)) rfl ?_ | refine AOps.p (W.call1 rfl (field_ps _) rfl) rfl ?_) | refine WK ?_ | refine All.i fun X=>?_ | refine AllY.i fun Y=>?_))
  refine AWP.cond rfl (fun hc=>?_) (fun hc=>?_)
  ·have hc:fieldErr k.fields[i] ≠ 0:=by simpa using hc
   (repeat (first | refine WK ?_ | refine All.i fun X=>?_ | refine AllY.i fun Y=>?_))
   (refine AWP.ret ?_;(repeat (first | refine inB_r ?_ | refine andThen_r ?_));refine retQ_r ?_)
   refine Ends.plain rfl rfl (by exact Sub.f) ⟨?_,rfl⟩
   rw [e1,he,fieldsErr_at h,fieldsErr_bad hc]
   rfl
  have hc:fieldErr k.fields[i] = 0:=by simpa using hc
  have hmt:((k.fields.map fieldA).take i).length = i:=by simp;omega
  (repeat (first | (refine AOps.gN ?_;first | refine AOps.p (W.hiL rfl rfl rfl (by simp;omega)) rfl ?_) | refine AWP.loopR (fun j:Nat=>⟨[(1,.ptr X1 0 0),(17,fieldsA false k.fields),(18,iA (k.fields.map fieldA).length),(19,iA i),(3,iA i),(4,.ptr X 0 0),(32,.lst false 104 3 ((k.fields.map fieldA).take i)),(33,iA ((k.fields.map fieldA).take i).length),(34,iA j)],(X,.row 104 3 [fieldA k.fields[i]]) :: (X1,.row 107 2 [kindA false k]) :: Sf⟩) (fun j=>j ≤ i ∧ ∀ q (hq:q < k.fields.length),q < j → k.fields[q].name ≠ k.fields[i].name) (fun j=>i - j) 0 ⟨by omega,by omega⟩ ⟨.cons rfl (.cons rfl (.cons rfl (.cons rfl (.cons rfl (.cons rfl (.cons rfl (.cons rfl (.cons rfl .nil)))))))),by exact Sub.f⟩ ?_ | refine WK ?_ | refine All.i fun X=>?_ | refine AllY.i fun Y=>?_))
  rintro j ⟨hj,hne⟩
  (repeat (first | refine WK ?_ | refine All.i fun X=>?_ | refine AllY.i fun Y=>?_))
  refine AWP.cond rfl (fun hd=>?_) (fun hd=>?_)
  ·have hd:j < i:=by rw [hmt] at hd;simpa using hd
   have hat:((k.fields.map fieldA).take i)[j]? = some (fieldA (k.fields[j]'(by omega))):=by rw [List.getElem?_take_of_lt hd];exact map_at _ _
   (repeat (first | (refine AOps.gN ?_;first | refine AOps.p (W.idxL rfl rfl rfl hat) rfl ?_) | refine WK ?_ | refine All.i fun X=>?_ | refine AllY.i fun Y=>?_))
   refine AWP.cond rfl (fun hq=>?_) (fun hq=>?_)
   ·have hq:(k.fields[j]'(by omega)).name = k.fields[i].name:=by simpa using hq
    (repeat (first | refine WK ?_ | refine All.i fun X=>?_ | refine AllY.i fun Y=>?_))
    (refine AWP.ret ?_;(repeat (first | refine inB_r ?_ | refine andThen_r ?_));refine retQ_r ?_)
    refine Ends.plain rfl rfl (by exact Sub.f) ⟨?_,rfl⟩
    rw [e1,he,fieldsErr_at h,fieldsErr_twice hc (j:=j) (by simp;omega) (by simpa using hq)]
   ·have hq:(k.fields[j]'(by omega)).name ≠ k.fields[i].name:=by simpa using hq
    (repeat (first | refine WK ?_ | refine All.i fun X=>?_ | refine AllY.i fun Y=>?_))
    refine ⟨j + 1,⟨by omega,fun q hq1 hq2=>?_⟩,by omega,.cons rfl (.cons rfl (.cons rfl (.cons rfl (.cons rfl (.cons rfl (.cons rfl (.cons rfl (.cons rfl .nil)))))))),by exact Sub.f⟩
    by_cases e:q = j
    ·subst e;exact hq
    ·exact hne q hq1 (by omega)
  ·have hd:¬ j < i:=by rw [hmt] at hd;simpa using hd
   (repeat (first | refine WK ?_ | refine All.i fun X=>?_ | refine AllY.i fun Y=>?_))
   refine ⟨i + 1,⟨by omega,?_⟩,by omega,.cons rfl (.cons rfl (.cons rfl (.cons rfl .nil))),by exact Sub.f⟩
   rw [he,fieldsErr_at h,fieldsErr_next hc fun q hq=>?_,List.take_add_one,List.getElem?_eq_getElem h]
   ·rfl
   ·simp only [List.getElem_take]
    exact hne q (by simp at hq;omega) (by simp at hq;omega)
 ·have h:¬ i < k.fields.length:=by simpa using hb
  (repeat (first | refine WK ?_ | refine All.i fun X=>?_ | refine AllY.i fun Y=>?_))
  (refine AWP.ret ?_;(repeat (first | refine inB_r ?_ | refine andThen_r ?_));refine retQ_r ?_)
  refine Ends.plain rfl rfl (by exact Sub.f) ⟨?_,rfl⟩
  rw [e1,he,fieldsErr_end (by omega)]
theorem oneErr_len {k:Kind} (h:oneErr k = 0):k.fields.length ≤ 8:=by
 unfold oneErr at h
 split at h
 ·split at h
  ·cases h
  ·omega
 ·cases h
def fitL (k:Kind) (vals:List Int) (i:Nat):List Int:=(List.zipWith nearOf k.fields vals).take i ++ List.replicate (vals.length - i) 0
theorem fitL_at {k:Kind} {vals:List Int} {i:Nat} (hl:vals.length = k.fields.length) (h:i < vals.length):((fitL k vals i).map iA)[i]? = some (iA 0):=by
 have hz:(List.zipWith nearOf k.fields vals).length = vals.length:=by simp;omega
 rw [List.getElem?_map,fitL,List.getElem?_append_right (by simp;omega)]
 rw [List.length_take,Nat.min_eq_left (by omega),Nat.sub_self,List.getElem?_replicate,if_pos (by omega)]
 rfl
theorem fitL_set {k:Kind} {vals:List Int} {i:Nat} (hl:vals.length = k.fields.length) (h:i < vals.length):((fitL k vals i).map iA).set i (iA (nearOf (k.fields[i]'(by omega)) vals[i])) = (fitL k vals (i + 1)).map iA:=by
 have hz:(List.zipWith nearOf k.fields vals).length = vals.length:=by simp;omega
 rw [← List.map_set]
 congr 1
 unfold fitL
 rw [List.set_append_right _ _ (by simp;omega),List.length_take,Nat.min_eq_left (by omega),Nat.sub_self]
 rw [show vals.length - i = (vals.length - (i + 1)) + 1 from by omega,List.replicate_succ,List.set_cons_zero]
 rw [List.take_add_one,List.getElem?_eq_getElem (by omega),List.append_assoc]
 simp
theorem fit_ps (k:Kind) (vals:List Int):PS Try.prog 132 [kindA false k,intsA false vals] (.tup [intsA true (fitOf k vals).1,iA (fitOf k vals).2]):=by
 refine Spec.of (nt:=43) (res:=[.tmp 4,.tmp 5]) Try.func132 rfl (by kernel_rfl) rfl rfl rfl fun Sf=>?_
 (repeat (first | (refine AOps.gN ?_;first | refine AOps.p (W.call1 rfl (one_ps _) rfl) rfl ?_ | (refine AOps.rs fun B=>?_;refine AOps.s (W.box rfl .here rfl) rfl ?_)) | refine WK ?_ | refine All.i fun X=>?_ | refine AllY.i fun Y=>?_))
 refine AWP.cond rfl (fun hb=>?_) (fun hb=>?_)
 ·have hb:oneErr k ≠ 0:=by simpa using hb
  (repeat (first | refine WK ?_ | refine All.i fun X=>?_ | refine AllY.i fun Y=>?_))
  (refine AWP.ret ?_;(repeat (first | refine inB_r ?_ | refine andThen_r ?_));refine retQ_r ?_)
  rw [show fitOf k vals = ([],oneErr k) from by simp [fitOf,hb]]
  exact ⟨[.prim (.slice none 0 0),iA (oneErr k)],[intsA true [],iA (oneErr k)],_,[],.cons (.tmp rfl) rfl (.cons (.tmp rfl) rfl .nil),.cons (.cell .nil) (.cons (.cell .same) .nil),by exact Sub.f,rfl,rfl⟩
 have hk:oneErr k = 0:=by simpa using hb
 have h8:=oneErr_len hk
 (repeat (first | refine WK ?_ | refine All.i fun X=>?_ | refine AllY.i fun Y=>?_))
 refine AWP.cond rfl (fun hb=>?_) (fun hb=>?_)
 ·have hb:vals.length ≠ k.fields.length:=by rw [decide_eq_true_eq,List.length_map,List.length_map] at hb;omega
  (repeat (first | refine WK ?_ | refine All.i fun X=>?_ | refine AllY.i fun Y=>?_))
  (refine AWP.ret ?_;(repeat (first | refine inB_r ?_ | refine andThen_r ?_));refine retQ_r ?_)
  rw [show fitOf k vals = ([],1) from by simp [fitOf,hk,hb]]
  exact ⟨[.prim (.slice none 0 0),iA 1],[intsA true [],iA 1],_,[],.cons (.tmp rfl) rfl (.cons (.tmp rfl) rfl .nil),.cons (.cell .nil) (.cons (.cell .same) .nil),by exact Sub.f,rfl,rfl⟩
 have hl:vals.length = k.fields.length:=by rw [decide_eq_false_iff_not,List.length_map,List.length_map] at hb;omega
 have hv:(vals.map iA).length ≤ 8:=by simp;omega
 have hz:List.replicate (vals.map iA).length (zAV [.int .i64 0] false) = (fitL k vals 0).map iA:=by simp [fitL];exact .inr rfl
 (repeat (first | (refine AOps.gN ?_;first | (refine AOps.rs fun XL=>?_;refine AOps.s (W.make rfl rfl .here rfl (.inr rfl) rfl rfl (Nat.le_refl _) (by omega) (Nat.le_trans hv (by decide))) rfl ?_)) | refine AWP.loopR (fun i:Nat=>⟨[(1,intsA false vals),(7,.sl XL 0 (vals.map iA).length),(25,fieldsA false k.fields),(26,iA (k.fields.map fieldA).length),(27,iA i)],(XL,.row 3 1 ((fitL k vals i).map iA)) :: (B,.row 107 2 [kindA false k]) :: Sf⟩) (fun i=>i ≤ vals.length) (fun i=>vals.length - i) 0 (Nat.zero_le _) ⟨.cons rfl (.cons rfl (.cons rfl (.cons rfl (.cons rfl .nil)))),(by show List.Sublist ((XL,.row 3 1 ((fitL k vals 0).map iA)) :: (B,.row 107 2 [kindA false k]) :: Sf) _;rw [← hz];exact Sub.f)⟩ ?_ | refine WK ?_ | refine All.i fun X=>?_ | refine AllY.i fun Y=>?_))
 rintro i hi
 (repeat (first | refine WK ?_ | refine All.i fun X=>?_ | refine AllY.i fun Y=>?_))
 refine AWP.cond rfl (fun hb=>?_) (fun hb=>?_)
 ·have h:i < vals.length:=by rw [decide_eq_true_eq,List.length_map] at hb;omega
  have h':i < k.fields.length:=by omega
  (repeat (first | (refine AOps.gN ?_;first | refine AOps.p (W.idxL rfl rfl rfl (map_at _ h')) rfl ?_) | refine WK ?_ | refine All.i fun X=>?_ | refine AllY.i fun Y=>?_))
  (repeat refine WF ?_);refine AWP.region_run (by kernel_rfl) (by kernel_rfl) ?_;(repeat (first | (refine RGo.gN ?_;first | refine RGo.p (W.idxL rfl rfl rfl (map_at _ h)) rfl ?_ | refine RGo.p (W.call2 rfl rfl (near_ps _ _) rfl) rfl ?_ | refine RGo.p (W.idx rfl rfl (by exact At.f) rfl (by simpa using h) (Nat.zero_add _)) rfl ?_ | refine RGo.s (W.store rfl rfl (by exact At.f) (fitL_at hl h) (by exact rfl)) rfl ?_) | (refine RGo.gQ ?_;first | refine RGo.p (W.idxL rfl rfl rfl (map_at _ h)) rfl ?_ | refine RGo.p (W.call2 rfl rfl (near_ps _ _) rfl) rfl ?_ | refine RGo.p (W.idx rfl rfl (by exact At.f) rfl (by simpa using h) (Nat.zero_add _)) rfl ?_ | refine RGo.s (W.store rfl rfl (by exact At.f) (fitL_at hl h) (by exact rfl)) rfl ?_) | refine RK ?_ | refine RGo.nil (by kernel_rfl) ?_))
  (repeat (first | refine WK ?_ | refine All.i fun X=>?_ | refine AllY.i fun Y=>?_))
  refine ⟨i + 1,by omega,by omega,.cons rfl (.cons rfl (.cons rfl (.cons rfl (.cons rfl .nil)))),?_⟩
  show List.Sublist ((XL,.row 3 1 ((fitL k vals (i + 1)).map iA)) :: (B,.row 107 2 [kindA false k]) :: Sf) _
  rw [← fitL_set hl h]
  exact Sub.f
 ·have h:¬ i < vals.length:=by rw [decide_eq_false_iff_not,List.length_map] at hb;omega
  (repeat (first | refine WK ?_ | refine All.i fun X=>?_ | refine AllY.i fun Y=>?_))
  (refine AWP.ret ?_;(repeat (first | refine inB_r ?_ | refine andThen_r ?_));refine retQ_r ?_)
  rw [show fitOf k vals = (List.zipWith nearOf k.fields vals,0) from by simp [fitOf,hk,hl]]
  have he:(fitL k vals i).map iA = (List.zipWith nearOf k.fields vals).map iA:=by
   congr 1
   rw [fitL,show vals.length - i = 0 from by omega,List.take_of_length_le (by simp;omega)]
   simp
  refine ⟨[.sl XL 0 (vals.map iA).length,iA 0],[.lst true 3 1 ((fitL k vals i).map iA),iA 0],_,[],.cons (.tmp rfl) rfl (.cons (.tmp rfl) rfl .nil),.cons (.cell (.sl (p:=0) .here (by rw [he];simp;omega))) (.cons (.cell .same) .nil),by exact Sub.f,?_,rfl⟩
  rw [he]
  rfl
theorem fitOf_len8 {k:Kind} {vals:List Int} (h:(fitOf k vals).2 = 0):(fitOf k vals).1.length = vals.length ∧ vals.length ≤ 8:=by
 unfold fitOf at h ⊢
 split
 ·rename_i h1;rw [if_pos h1] at h;exact absurd h h1
 ·rename_i h1
  rw [if_neg h1] at h
  split
  ·rename_i h2;rw [if_pos h2] at h;cases h
  ·rename_i h2;have:=oneErr_len (Decidable.not_not.1 h1);simp;omega
theorem holds_ps (k:Kind) (vals:List Int):PS Try.prog 95 [kindA false k,intsA false vals] (bA (holdsOf k vals)):=by
 refine Spec.of (nt:=31) (res:=[.tmp 4]) Try.func95 rfl (by kernel_rfl) rfl rfl rfl fun Sf=>?_
 have hfr:(AV.tup [intsA true (fitOf k vals).1,iA (fitOf k vals).2]).frz = .tup [intsA false (fitOf k vals).1,iA (fitOf k vals).2]:=by
  show AV.tup [(intsA true (fitOf k vals).1).frz,_] = _
  rw [intsA_frz]
  rfl
 (repeat (first | (refine AOps.gN ?_;first | refine AOps.p (W.callF2 rfl rfl (fit_ps _ _) rfl hfr) rfl ?_) | refine WK ?_ | refine All.i fun X=>?_ | refine AllY.i fun Y=>?_))
 refine AWP.cond rfl (fun hb=>?_) (fun hb=>?_)
 ·have hb:(fitOf k vals).2 ≠ 0:=by simpa using hb
  (repeat (first | refine WK ?_ | refine All.i fun X=>?_ | refine AllY.i fun Y=>?_))
  (refine AWP.ret ?_;(repeat (first | refine inB_r ?_ | refine andThen_r ?_));refine retQ_r ?_)
  refine Ends.plain rfl rfl (by exact Sub.f) ⟨?_,rfl⟩
  simp [holdsOf,hb]
 have hb:(fitOf k vals).2 = 0:=by simpa using hb
 obtain ⟨hlen,h8⟩:=fitOf_len8 hb
 obtain ⟨fl,hfl⟩:∃ fl,fl = (fitOf k vals).1:=⟨_,rfl⟩
 rw [← hfl] at hlen
 rw [show holdsOf k vals = decide (fl = vals) from by simp [holdsOf,hb,hfl]]
 rw [← hfl]
 clear hfr
 (repeat (first | refine AWP.loopR (fun i:Nat=>⟨[(1,intsA false vals),(5,intsA false fl),(17,iA (fl.map iA).length),(18,iA i)],Sf⟩) (fun i=>i ≤ vals.length ∧ ∀ j (h:j < vals.length),j < i → fl[j]'(by omega) = vals[j]) (fun i=>vals.length - i) 0 ⟨Nat.zero_le _,fun j h hj=>absurd hj (by omega)⟩ ⟨.cons rfl (.cons rfl (.cons rfl (.cons rfl .nil))),by exact Sub.f⟩ ?_ | refine WK ?_ | refine All.i fun X=>?_ | refine AllY.i fun Y=>?_))
 rintro i ⟨hi,he⟩
 (repeat (first | refine WK ?_ | refine All.i fun X=>?_ | refine AllY.i fun Y=>?_))
 refine AWP.cond rfl (fun hc=>?_) (fun hc=>?_)
 ·have h:i < fl.length:=by rw [decide_eq_true_eq,List.length_map] at hc;omega
  have h':i < vals.length:=by omega
  (repeat (first | refine WK ?_ | refine All.i fun X=>?_ | refine AllY.i fun Y=>?_))
  (repeat refine WF ?_);refine AWP.region_run (by kernel_rfl) (by kernel_rfl) ?_;(repeat (first | (refine RGo.gN ?_;first | refine RGo.p (W.idxL rfl rfl rfl (map_at _ h)) rfl ?_ | refine RGo.p (W.idxL rfl rfl rfl (map_at _ h')) rfl ?_) | (refine RGo.gQ ?_;first | refine RGo.p (W.idxL rfl rfl rfl (map_at _ h)) rfl ?_ | refine RGo.p (W.idxL rfl rfl rfl (map_at _ h')) rfl ?_) | refine RK ?_ | refine RGo.nil (by kernel_rfl) ?_))
  (repeat (first | refine WK ?_ | refine All.i fun X=>?_ | refine AllY.i fun Y=>?_))
  refine AWP.cond rfl (fun hd=>?_) (fun hd=>?_)
  ·have hd:fl[i] ≠ vals[i]:=by simpa using hd
   (repeat (first | refine WK ?_ | refine All.i fun X=>?_ | refine AllY.i fun Y=>?_))
   (refine AWP.ret ?_;(repeat (first | refine inB_r ?_ | refine andThen_r ?_));refine retQ_r ?_)
   refine Ends.plain rfl rfl (by exact Sub.f) ⟨?_,rfl⟩
   rw [decide_eq_false (fun e=>hd (by subst e;rfl))]
  ·have hd:fl[i] = vals[i]:=by simpa using hd
   (repeat (first | refine WK ?_ | refine All.i fun X=>?_ | refine AllY.i fun Y=>?_))
   refine ⟨i + 1,⟨by omega,fun j h1 h2=>?_⟩,by omega,.cons rfl (.cons rfl (.cons rfl (.cons rfl .nil))),by exact Sub.f⟩
   by_cases e:j = i
   ·subst e;exact hd
   ·exact he j h1 (by omega)
 ·have h:¬ i < fl.length:=by rw [decide_eq_false_iff_not,List.length_map] at hc;omega
  (repeat (first | refine WK ?_ | refine All.i fun X=>?_ | refine AllY.i fun Y=>?_))
  (refine AWP.ret ?_;(repeat (first | refine inB_r ?_ | refine andThen_r ?_));refine retQ_r ?_)
  refine Ends.plain rfl rfl (by exact Sub.f) ⟨?_,rfl⟩
  rw [decide_eq_true (List.ext_getElem hlen fun j h1 h2=>he j h2 (by omega))]
theorem check_ps (l:List Kind):PS Try.prog 58 [kindsA false false l] (iA (checkErr l)):=by
 refine Spec.of (nt:=29) (res:=[.tmp 2]) Try.func58 rfl (by kernel_rfl) rfl rfl rfl fun Sf=>?_
 (repeat (first | refine WK ?_ | refine All.i fun X=>?_ | refine AllY.i fun Y=>?_))
 refine AWP.cond rfl (fun hb=>?_) (fun hb=>?_)
 ·(repeat (first | refine WK ?_ | refine All.i fun X=>?_ | refine AllY.i fun Y=>?_))
  (refine AWP.ret ?_;(repeat (first | refine inB_r ?_ | refine andThen_r ?_));refine retQ_r ?_)
  refine Ends.plain rfl rfl (by exact Sub.f) ⟨?_,rfl⟩
  have hb:16 < l.length:=by rw [decide_eq_true_eq,List.length_map] at hb;omega
  rw [show checkErr l = 2 from by simp [checkErr,hb]]
 have hl:l.length ≤ 16:=by rw [decide_eq_false_iff_not,List.length_map] at hb;omega
 have e1:checkErr l = kindsErr [] l:=by simp [checkErr];omega
 (repeat (first | refine AWP.loopR (fun i:Nat=>⟨[(0,kindsA false false l),(9,kindsA false false l),(10,iA (l.map (kindA false)).length),(11,iA i)],Sf⟩) (fun i=>i ≤ l.length ∧ kindsErr [] l = kindsErr (l.take i) (l.drop i)) (fun i=>l.length - i) 0 ⟨by omega,rfl⟩ ⟨.cons rfl (.cons rfl (.cons rfl (.cons rfl .nil))),by exact Sub.f⟩ ?_ | refine WK ?_ | refine All.i fun X=>?_ | refine AllY.i fun Y=>?_))
 rintro i ⟨hi,he⟩
 (repeat (first | refine WK ?_ | refine All.i fun X=>?_ | refine AllY.i fun Y=>?_))
 refine AWP.cond rfl (fun hb=>?_) (fun hb=>?_)
 ·have h:i < l.length:=by simpa using hb
  (repeat (first | (refine AOps.gN ?_;first | refine AOps.p (W.idxL rfl rfl rfl (map_at _ h)) rfl ?_ | refine AOps.p (W.call1 rfl (one_ps _) rfl) rfl ?_) | refine WK ?_ | refine All.i fun X=>?_ | refine AllY.i fun Y=>?_))
  refine AWP.cond rfl (fun hc=>?_) (fun hc=>?_)
  ·have hc:oneErr l[i] ≠ 0:=by simpa using hc
   (repeat (first | refine WK ?_ | refine All.i fun X=>?_ | refine AllY.i fun Y=>?_))
   (refine AWP.ret ?_;(repeat (first | refine inB_r ?_ | refine andThen_r ?_));refine retQ_r ?_)
   refine Ends.plain rfl rfl (by exact Sub.f) ⟨?_,rfl⟩
   rw [e1,he,kindsErr_at h,kindsErr_bad hc]
   rfl
  have hc:oneErr l[i] = 0:=by simpa using hc
  have hf:PS Try.prog 94 [.lst false 107 2 ((l.map (kindA false)).take i),sA l[i].name] (iA (findKind (l.take i) l[i].name)):=by
   have:=find_ps (l.take i) l[i].name (by simp;omega)
   simpa only [kindsA,List.map_take] using this
  (repeat (first | refine WK ?_ | refine All.i fun X=>?_ | refine AllY.i fun Y=>?_))
  (repeat refine WF ?_);refine AWP.region_run (by kernel_rfl) (by kernel_rfl) ?_;(repeat (first | (refine RGo.gN ?_;first | refine RGo.p (W.hiL rfl rfl rfl (by simp;omega)) rfl ?_ | refine RGo.p (W.call2 rfl rfl hf rfl) rfl ?_) | (refine RGo.gQ ?_;first | refine RGo.p (W.hiL rfl rfl rfl (by simp;omega)) rfl ?_ | refine RGo.p (W.call2 rfl rfl hf rfl) rfl ?_) | refine RK ?_ | refine RGo.nil (by kernel_rfl) ?_))
  (repeat (first | refine WK ?_ | refine All.i fun X=>?_ | refine AllY.i fun Y=>?_))
  refine AWP.cond rfl (fun hd=>?_) (fun hd=>?_)
  ·have hd:0 ≤ findKind (l.take i) l[i].name:=by simpa using hd
   (repeat (first | refine WK ?_ | refine All.i fun X=>?_ | refine AllY.i fun Y=>?_))
   (refine AWP.ret ?_;(repeat (first | refine inB_r ?_ | refine andThen_r ?_));refine retQ_r ?_)
   refine Ends.plain rfl rfl (by exact Sub.f) ⟨?_,rfl⟩
   rw [e1,he,kindsErr_at h,kindsErr_twice hc hd]
  ·have hd:findKind (l.take i) l[i].name < 0:=by simpa using hd
   (repeat (first | refine WK ?_ | refine All.i fun X=>?_ | refine AllY.i fun Y=>?_))
   refine ⟨i + 1,⟨by omega,?_⟩,by omega,.cons rfl (.cons rfl (.cons rfl (.cons rfl .nil))),by exact Sub.f⟩
   rw [he,kindsErr_at h,kindsErr_next hc hd,List.take_add_one,List.getElem?_eq_getElem h]
   rfl
 ·have h:¬ i < l.length:=by simpa using hb
  (repeat (first | refine WK ?_ | refine All.i fun X=>?_ | refine AllY.i fun Y=>?_))
  (refine AWP.ret ?_;(repeat (first | refine inB_r ?_ | refine andThen_r ?_));refine retQ_r ?_)
  refine Ends.plain rfl rfl (by exact Sub.f) ⟨?_,rfl⟩
  rw [e1,he,kindsErr_end (by omega)]
def heldFrom (ks:List Kind):Int → List Comp → Bool
 | _,[]=>true
 | last,c :: l=>match ks[c.kind.toNat]? with
  | some k=>decide (last < c.kind) && decide (c.kind < ks.length) && holdsOf k c.vals && heldFrom ks c.kind l
  | none=>false
def heldOf (ks:List Kind) (l:List Comp):Bool:=heldFrom ks (-1) l
theorem heldFrom_at {ks:List Kind} {l:List Comp} {i:Nat} {last:Int} {k:Kind} {c:Comp} (h:i < l.length) (hc:l[i] = c) (hk:ks[c.kind.toNat]? = some k):heldFrom ks last (l.drop i) = (decide (last < c.kind) && decide (c.kind < ks.length) && holdsOf k c.vals && heldFrom ks c.kind (l.drop (i + 1))):=by
 rw [List.drop_eq_getElem_cons h,heldFrom,hc,hk]
theorem heldFrom_no {ks:List Kind} {l:List Comp} {i:Nat} {last:Int} {c:Comp} (h:i < l.length) (hc:l[i] = c) (hn:c.kind ≤ last ∨ (ks.length:Int) ≤ c.kind):heldFrom ks last (l.drop i) = false:=by
 rw [List.drop_eq_getElem_cons h,heldFrom,hc]
 split
 ·rcases hn with hn | hn
  ·rw [decide_eq_false (by omega)];rfl
  ·rw [decide_eq_false (p:=c.kind < _) (by omega)];simp
 ·rfl
def itemsFrom (ks:List Kind) (gens:List Int):Int → List Item → Bool
 | _,[]=>true
 | last,it :: l=>match gens[it.ent.n.toNat]? with
  | some g=>decide (last < it.ent.n) && decide (it.ent.n < gens.length) && decide (it.ent.gen = g) && !decide (it.ent.gen = 1073741824) && heldOf ks it.comps && itemsFrom ks gens it.ent.n l
  | none=>false
theorem itemsFrom_at {ks:List Kind} {gens:List Int} {l:List Item} {i:Nat} {last:Int} {g:Int} {it:Item} (h:i < l.length) (hc:l[i] = it) (hk:gens[it.ent.n.toNat]? = some g):itemsFrom ks gens last (l.drop i) = (decide (last < it.ent.n) && decide (it.ent.n < gens.length) && decide (it.ent.gen = g) && !decide (it.ent.gen = 1073741824) && heldOf ks it.comps && itemsFrom ks gens it.ent.n (l.drop (i + 1))):=by
 rw [List.drop_eq_getElem_cons h,itemsFrom,hc,hk]
theorem itemsFrom_no {ks:List Kind} {gens:List Int} {l:List Item} {i:Nat} {last:Int} {it:Item} (h:i < l.length) (hc:l[i] = it) (hn:it.ent.n ≤ last ∨ (gens.length:Int) ≤ it.ent.n):itemsFrom ks gens last (l.drop i) = false:=by
 rw [List.drop_eq_getElem_cons h,itemsFrom,hc]
 split
 ·rcases hn with hn | hn
  ·rw [decide_eq_false (by omega)];rfl
  ·rw [decide_eq_false (p:=it.ent.n < _) (by omega)];simp
 ·rfl
def gensOk (l:List Int):Bool:=l.all fun g=>decide (0 ≤ g) && decide (g ≤ 1073741824)
def wdErr (w:Wd):Int :=
 if checkErr w.kinds ≠ 0 then checkErr w.kinds
 else if 256 < w.gens.length ∨ w.gens.length < w.items.length then 2
 else if gensOk w.gens = false then 3
 else if itemsFrom w.kinds w.gens (-1) w.items = false then 3 else 0
theorem held_ps (ks:List Kind) (l:List Comp) (hl:l.length ≤ 1099511627776):PS Try.prog 59 [kindsA false false ks,compsA false false l] (bA (heldOf ks l)):=by
 refine Spec.of (nt:=39) (res:=[.tmp 4]) Try.func59 rfl (by kernel_rfl) rfl rfl rfl fun Sf=>?_
 have hlm:(l.map (compA false)).length = l.length:=List.length_map _
 (repeat (first | refine WK ?_ | refine All.i fun X=>?_ | refine AllY.i fun Y=>?_))
 refine AWP.lp2 (fun (i:Nat) (last:Int)=>⟨[(0,kindsA false false ks),(5,iA last),(8,compsA false false l),(9,iA (l.map (compA false)).length),(10,iA i)],Sf⟩) (fun i last=>i ≤ l.length ∧ -1 ≤ last ∧ heldFrom ks last (l.drop i) = heldOf ks l) (fun i _=>l.length - i) 0 (-1) ⟨Nat.zero_le _,by omega,rfl⟩ ?_
 rintro i last ⟨hi,hla,he⟩
 (repeat (first | refine WK ?_ | refine All.i fun X=>?_ | refine AllY.i fun Y=>?_))
 refine AWP.cond rfl (fun hc=>?_) (fun hc=>?_)
 ·have h:i < l.length:=by rw [decide_eq_true_eq,hlm] at hc;omega
  obtain ⟨⟨ck,cv⟩,hcc⟩:∃ c,l[i] = c:=⟨_,rfl⟩
  have hat:(l.map (compA false))[i]? = some (compA false ⟨ck,cv⟩):=by rw [List.getElem?_map,List.getElem?_eq_getElem h,hcc];rfl
  (repeat (first | refine WK ?_ | refine All.i fun X=>?_ | refine AllY.i fun Y=>?_))
  rcases Bool.eq_false_or_eq_true (decide (ck ≤ last)) with g1 | g1
  ·(repeat refine WF ?_);refine AWP.region_run (by kernel_rfl) (by kernel_rfl) ?_;(repeat (first | (refine RGo.gQ ?_;first | refine RGo.goNU ?_ | refine RGo.goNV ?_) | refine RK ?_ | refine RGo.nil (by kernel_rfl) ?_))
   refine AWP.cond_t rfl (by first | rfl | assumption) ?_
   (repeat (first | refine WK ?_ | refine All.i fun X=>?_ | refine AllY.i fun Y=>?_))
   (refine AWP.ret ?_;(repeat (first | refine inB_r ?_ | refine andThen_r ?_));refine retQ_r ?_);refine Ends.ps ?_
   rw [← he,heldFrom_no h hcc (.inl (by simpa using g1))]
  ·obtain ⟨n,rfl⟩:∃ n:Nat,ck = n:=⟨ck.toNat,by rw [decide_eq_false_iff_not] at g1;omega⟩
   rcases Bool.eq_false_or_eq_true (decide (((ks.map (kindA false)).length:Int) ≤ n)) with g2 | g2
   ·(repeat refine WF ?_);refine AWP.region_run (by kernel_rfl) (by kernel_rfl) ?_;(repeat (first | (refine RGo.gQ ?_;first | refine RGo.goNU ?_ | refine RGo.goNV ?_) | refine RK ?_ | refine RGo.nil (by kernel_rfl) ?_))
    refine AWP.cond_t rfl (by first | rfl | assumption) ?_
    (repeat (first | refine WK ?_ | refine All.i fun X=>?_ | refine AllY.i fun Y=>?_))
    (refine AWP.ret ?_;(repeat (first | refine inB_r ?_ | refine andThen_r ?_));refine retQ_r ?_);refine Ends.ps ?_
    rw [← he,heldFrom_no h hcc (.inr (by rw [decide_eq_true_eq,List.length_map] at g2;exact g2))]
   ·have hkl:n < ks.length:=by rw [decide_eq_false_iff_not,List.length_map] at g2;omega
    obtain ⟨k,hk⟩:∃ k,ks[n] = k:=⟨_,rfl⟩
    have hka:ks[n]? = some k:=by rw [List.getElem?_eq_getElem hkl,hk]
    have hat2:(ks.map (kindA false))[n]? = some (kindA false k):=by rw [List.getElem?_map,hka];rfl
    have hst:=heldFrom_at (last:=last) (k:=k) h hcc hka
    dsimp only at hst
    rw [decide_eq_true (by rw [decide_eq_false_iff_not] at g1;omega),decide_eq_true (p:=(n:Int) < _) (by omega),Bool.true_and,Bool.true_and,he] at hst
    have hh:=holds_ps k cv
    obtain ⟨b,hb⟩:∃ b,holdsOf k cv = b:=⟨_,rfl⟩
    rw [hb] at hst hh
    cases b
    ·(repeat refine WF ?_);refine AWP.region_run (by kernel_rfl) (by kernel_rfl) ?_;(repeat (first | (refine RGo.gN ?_;first | (refine RGo.g_callf ?_;first | refine RGo.c2 (h:=(hh ..)) (k:=?_))) | (refine RGo.gQ ?_;first | (refine RGo.g_callf ?_;first | refine RGo.c2 (h:=(hh ..)) (k:=?_))) | refine RK ?_ | refine RGo.nil (by kernel_rfl) ?_))
     refine AWP.cond_t rfl (by first | rfl | assumption) ?_
     (repeat (first | refine WK ?_ | refine All.i fun X=>?_ | refine AllY.i fun Y=>?_))
     (refine AWP.ret ?_;(repeat (first | refine inB_r ?_ | refine andThen_r ?_));refine retQ_r ?_);refine Ends.ps ?_
     rw [hst];rfl
    ·(repeat refine WF ?_);refine AWP.region_run (by kernel_rfl) (by kernel_rfl) ?_;(repeat (first | (refine RGo.gN ?_;first | (refine RGo.g_callf ?_;first | refine RGo.c2 (h:=(hh ..)) (k:=?_))) | (refine RGo.gQ ?_;first | (refine RGo.g_callf ?_;first | refine RGo.c2 (h:=(hh ..)) (k:=?_))) | refine RK ?_ | refine RGo.nil (by kernel_rfl) ?_))
     refine AWP.cond_f rfl (by first | rfl | assumption) ?_
     (repeat (first | refine WK ?_ | refine All.i fun X=>?_ | refine AllY.i fun Y=>?_))
     refine lp_next2 (i + 1) n ⟨h,by omega,hst.symm⟩
 ·have h:i = l.length:=by rw [decide_eq_false_iff_not,hlm] at hc;omega
  subst h
  (repeat (first | refine WK ?_ | refine All.i fun X=>?_ | refine AllY.i fun Y=>?_))
  (refine AWP.ret ?_;(repeat (first | refine inB_r ?_ | refine andThen_r ?_));refine retQ_r ?_);refine Ends.ps ?_
  rw [← he,List.drop_length];rfl
set_option maxHeartbeats 2000000 in
theorem check_ps' (w:Wd) (hg:w.gens.length ≤ 1099511627776) (hi:w.items.length ≤ 1099511627776) (hc:∀ it ∈ w.items,it.comps.length ≤ 1099511627776):PS Try.prog 36 [wdA false w] (iA (wdErr w)):=by
 have hck:=check_ps w.kinds
 obtain ⟨ke,hke⟩:∃ ke,checkErr w.kinds = ke:=⟨_,rfl⟩
 obtain ⟨we,hwe⟩:∃ we,wdErr w = we:=⟨_,rfl⟩
 rw [hwe]
 unfold wdErr at hwe
 rw [hke] at hck hwe
 obtain ⟨ks,gens,items⟩:=w
 dsimp only at hwe hg hi hc hck hke
 refine Spec.of (nt:=94) (res:=[.tmp 2]) Try.func36 rfl (by kernel_rfl) rfl rfl rfl fun Sf=>?_
 have hgm:(gens.map iA).length = gens.length:=List.length_map _
 have him:(items.map (itemA false)).length = items.length:=List.length_map _
 (repeat refine WF ?_);refine AWP.region ?_;(repeat (first | (refine AOps.gN ?_;first | (refine AOps.g_box ?_;refine AOps.goB ?_)) | refine WO ?_ | refine All.i fun X=>?_ | refine AllY.i fun Y=>?_));refine AOps.nil ?_;(repeat refine WN ?_)
 (repeat refine WF ?_);refine AWP.region ?_;(repeat (first | (refine AOps.gN ?_;first | (refine AOps.g_callf ?_;first | refine AOps.c1 (h:=(hck ..)) (k:=?_))) | refine WO ?_ | refine All.i fun X=>?_ | refine AllY.i fun Y=>?_));refine AOps.nil ?_;(repeat refine WN ?_)
 (repeat (first | refine WK ?_ | refine All.i fun X=>?_ | refine AllY.i fun Y=>?_))
 refine AWP.cond rfl (fun hd=>?_) (fun hd=>?_)
 ·have hd:ke ≠ 0:=by simpa using hd
  (repeat (first | refine WK ?_ | refine All.i fun X=>?_ | refine AllY.i fun Y=>?_))
  (refine AWP.ret ?_;(repeat (first | refine inB_r ?_ | refine andThen_r ?_));refine retQ_r ?_);refine Ends.ps ?_
  rw [← hwe,if_pos hd]
 have hd:ke = 0:=by simpa using hd
 rw [if_neg (by simp [hd])] at hwe
 rcases Bool.eq_false_or_eq_true (decide (256 < ((gens.map iA).length:Int))) with g1 | g1
 ·(repeat (first | refine WK ?_ | refine All.i fun X=>?_ | refine AllY.i fun Y=>?_))
  refine AWP.cond_t rfl (by first | rfl | assumption) ?_
  (repeat (first | refine WK ?_ | refine All.i fun X=>?_ | refine AllY.i fun Y=>?_))
  (refine AWP.ret ?_;(repeat (first | refine inB_r ?_ | refine andThen_r ?_));refine retQ_r ?_);refine Ends.ps ?_
  rw [← hwe,if_pos (.inl (by rw [decide_eq_true_eq,hgm] at g1;omega))]
 rcases Bool.eq_false_or_eq_true (decide (((gens.map iA).length:Int) < (items.map (itemA false)).length)) with g2 | g2
 ·(repeat (first | refine WK ?_ | refine All.i fun X=>?_ | refine AllY.i fun Y=>?_))
  refine AWP.cond_t rfl (by first | rfl | assumption) ?_
  (repeat (first | refine WK ?_ | refine All.i fun X=>?_ | refine AllY.i fun Y=>?_))
  (refine AWP.ret ?_;(repeat (first | refine inB_r ?_ | refine andThen_r ?_));refine retQ_r ?_);refine Ends.ps ?_
  rw [← hwe,if_pos (.inr (by rw [decide_eq_true_eq,hgm,him] at g2;omega))]
 (repeat (first | refine WK ?_ | refine All.i fun X=>?_ | refine AllY.i fun Y=>?_))
 refine AWP.cond_f rfl (by first | rfl | assumption) ?_
 rw [if_neg (by rw [decide_eq_false_iff_not,hgm] at g1;rw [decide_eq_false_iff_not,hgm,him] at g2;omega)] at hwe
 (repeat (first | refine WK ?_ | refine All.i fun X=>?_ | refine AllY.i fun Y=>?_))
 refine AWP.lp (fun i:Nat=>⟨[(1,.fp (wdA false ⟨ks,gens,items⟩).cells),(29,intsA false gens),(30,iA (gens.map iA).length),(31,iA i)],Sf⟩) (fun i=>i ≤ gens.length ∧ ∀ j (h:j < gens.length),j < i → 0 ≤ gens[j] ∧ gens[j] ≤ 1073741824) (fun i=>gens.length - i) 0 ⟨Nat.zero_le _,fun j h hj=>absurd hj (by omega)⟩ ?_
 rintro i ⟨hil,hgo⟩
 (repeat (first | refine WK ?_ | refine All.i fun X=>?_ | refine AllY.i fun Y=>?_))
 refine AWP.cond rfl (fun he=>?_) (fun he=>?_)
 ·have h:i < gens.length:=by rw [decide_eq_true_eq,hgm] at he;omega
  obtain ⟨x,hx⟩:∃ x,gens[i] = x:=⟨_,rfl⟩
  have hat:(gens.map iA)[i]? = some (iA x):=by rw [List.getElem?_map,List.getElem?_eq_getElem h,hx];rfl
  have hbad:¬ (0 ≤ x ∧ x ≤ 1073741824) → gensOk gens = false:=fun hn=>by
   unfold gensOk
   rw [List.all_eq_false]
   refine ⟨x,hx ▸ List.getElem_mem h,?_⟩
   simp only [Bool.and_eq_true,decide_eq_true_eq]
   exact hn
  (repeat (first | refine WK ?_ | refine All.i fun X=>?_ | refine AllY.i fun Y=>?_))
  refine AWP.cond rfl (fun hf=>?_) (fun hf=>?_)
  ·have hf:¬ (0 ≤ x ∧ x ≤ 1073741824):=by simp at hf;omega
   (repeat (first | refine WK ?_ | refine All.i fun X=>?_ | refine AllY.i fun Y=>?_))
   (refine AWP.ret ?_;(repeat (first | refine inB_r ?_ | refine andThen_r ?_));refine retQ_r ?_);refine Ends.ps ?_
   rw [← hwe,if_pos (hbad hf)]
  ·have hf:0 ≤ x ∧ x ≤ 1073741824:=by simp at hf;omega
   (repeat (first | refine WK ?_ | refine All.i fun X=>?_ | refine AllY.i fun Y=>?_))
   refine lp_next (i + 1) ⟨h,fun j h1 h2=>?_⟩
   by_cases e:j = i
   ·subst e;rw [hx];exact hf
   ·exact hgo j h1 (by omega)
 have hgok:gensOk gens = true:=by
  have h:i = gens.length:=by rw [decide_eq_false_iff_not,hgm] at he;omega
  unfold gensOk
  rw [List.all_eq_true]
  intro x hx
  obtain ⟨j,hj,rfl⟩:=List.getElem_of_mem hx
  simp only [Bool.and_eq_true,decide_eq_true_eq]
  exact hgo j hj (by omega)
 rw [if_neg (by simp [hgok])] at hwe
 (repeat (first | refine WK ?_ | refine All.i fun X=>?_ | refine AllY.i fun Y=>?_))
 refine AWP.lp2 (fun (i:Nat) (last:Int)=>⟨[(1,.fp (wdA false ⟨ks,gens,items⟩).cells),(6,iA last),(43,itemsA false false items),(44,iA (items.map (itemA false)).length),(45,iA i)],Sf⟩) (fun i last=>i ≤ items.length ∧ -1 ≤ last ∧ itemsFrom ks gens last (items.drop i) = itemsFrom ks gens (-1) items) (fun i _=>items.length - i) 0 (-1) ⟨Nat.zero_le _,by omega,rfl⟩ ?_
 clear hil hgo he i
 rintro i last ⟨hil,hla,he⟩
 (repeat (first | refine WK ?_ | refine All.i fun X=>?_ | refine AllY.i fun Y=>?_))
 refine AWP.cond rfl (fun hd'=>?_) (fun hd'=>?_)
 ·have h:i < items.length:=by rw [decide_eq_true_eq,him] at hd';omega
  obtain ⟨⟨⟨en,eg⟩,cs⟩,hit⟩:∃ it,items[i] = it:=⟨_,rfl⟩
  have hat:(items.map (itemA false))[i]? = some (itemA false ⟨⟨en,eg⟩,cs⟩):=by rw [List.getElem?_map,List.getElem?_eq_getElem h,hit];rfl
  have hcl:=hc _ (hit ▸ List.getElem_mem h)
  dsimp only at hcl
  (repeat (first | refine WK ?_ | refine All.i fun X=>?_ | refine AllY.i fun Y=>?_))
  rcases Bool.eq_false_or_eq_true (decide (en ≤ last)) with q1 | q1
  ·(repeat refine WF ?_);refine AWP.region_run (by kernel_rfl) (by kernel_rfl) ?_;(repeat (first | (refine RGo.gQ ?_;first | refine RGo.goNU ?_ | refine RGo.goNV ?_) | refine RK ?_ | refine RGo.nil (by kernel_rfl) ?_))
   refine AWP.cond_t rfl (by first | rfl | assumption) ?_
   (repeat (first | refine WK ?_ | refine All.i fun X=>?_ | refine AllY.i fun Y=>?_))
   (refine AWP.ret ?_;(repeat (first | refine inB_r ?_ | refine andThen_r ?_));refine retQ_r ?_);refine Ends.ps ?_
   rw [← hwe,if_pos (by rw [← he,itemsFrom_no h hit (.inl (by simpa using q1))])]
  obtain ⟨n,rfl⟩:∃ n:Nat,en = n:=⟨en.toNat,by rw [decide_eq_false_iff_not] at q1;omega⟩
  rcases Bool.eq_false_or_eq_true (decide (((gens.map iA).length:Int) ≤ n)) with q2 | q2
  ·(repeat refine WF ?_);refine AWP.region_run (by kernel_rfl) (by kernel_rfl) ?_;(repeat (first | (refine RGo.gQ ?_;first | refine RGo.goNU ?_ | refine RGo.goNV ?_) | refine RK ?_ | refine RGo.nil (by kernel_rfl) ?_))
   refine AWP.cond_t rfl (by first | rfl | assumption) ?_
   (repeat (first | refine WK ?_ | refine All.i fun X=>?_ | refine AllY.i fun Y=>?_))
   (refine AWP.ret ?_;(repeat (first | refine inB_r ?_ | refine andThen_r ?_));refine retQ_r ?_);refine Ends.ps ?_
   rw [← hwe,if_pos (by rw [← he,itemsFrom_no h hit (.inr (by rw [decide_eq_true_eq,hgm] at q2;exact q2))])]
  have hkl:n < gens.length:=by rw [decide_eq_false_iff_not,hgm] at q2;omega
  obtain ⟨g,hg'⟩:∃ g,gens[n] = g:=⟨_,rfl⟩
  have hga:gens[n]? = some g:=by rw [List.getElem?_eq_getElem hkl,hg']
  have hat2:(gens.map iA)[n]? = some (iA g):=by rw [List.getElem?_map,hga];rfl
  have hst:=itemsFrom_at (ks:=ks) (last:=last) (g:=g) h hit hga
  dsimp only at hst
  rw [decide_eq_true (by rw [decide_eq_false_iff_not] at q1;omega),decide_eq_true (p:=(n:Int) < _) (by omega),Bool.true_and,Bool.true_and,he] at hst
  rcases Bool.eq_false_or_eq_true (decide (eg ≠ g)) with q3 | q3
  ·(repeat refine WF ?_);refine AWP.region_run (by kernel_rfl) (by kernel_rfl) ?_;(repeat (first | (refine RGo.gQ ?_;first | refine RGo.goNU ?_ | refine RGo.goNV ?_) | refine RK ?_ | refine RGo.nil (by kernel_rfl) ?_))
   refine AWP.cond_t rfl (by first | rfl | assumption) ?_
   (repeat (first | refine WK ?_ | refine All.i fun X=>?_ | refine AllY.i fun Y=>?_))
   (refine AWP.ret ?_;(repeat (first | refine inB_r ?_ | refine andThen_r ?_));refine retQ_r ?_);refine Ends.ps ?_
   rw [← hwe,if_pos (by rw [hst,decide_eq_false (by simpa using q3)];rfl)]
  rcases Bool.eq_false_or_eq_true (decide (eg = 1073741824)) with q4 | q4
  ·(repeat refine WF ?_);refine AWP.region_run (by kernel_rfl) (by kernel_rfl) ?_;(repeat (first | (refine RGo.gQ ?_;first | refine RGo.goNU ?_ | refine RGo.goNV ?_) | refine RK ?_ | refine RGo.nil (by kernel_rfl) ?_))
   refine AWP.cond_t rfl (by first | rfl | assumption) ?_
   (repeat (first | refine WK ?_ | refine All.i fun X=>?_ | refine AllY.i fun Y=>?_))
   (refine AWP.ret ?_;(repeat (first | refine inB_r ?_ | refine andThen_r ?_));refine retQ_r ?_);refine Ends.ps ?_
   rw [← hwe,if_pos (by rw [hst,q4];simp)]
  have hh:=held_ps ks cs hcl
  obtain ⟨b,hb⟩:∃ b,heldOf ks cs = b:=⟨_,rfl⟩
  rw [decide_eq_true (p:=eg = g) (by simpa using q3),q4,hb,Bool.true_and,Bool.not_false,Bool.true_and] at hst
  rw [hb] at hh
  cases b
  ·(repeat refine WF ?_);refine AWP.region_run (by kernel_rfl) (by kernel_rfl) ?_;(repeat (first | (refine RGo.gN ?_;first | (refine RGo.g_callf ?_;first | refine RGo.c2 (h:=(hh ..)) (k:=?_))) | (refine RGo.gQ ?_;first | (refine RGo.g_callf ?_;first | refine RGo.c2 (h:=(hh ..)) (k:=?_))) | refine RK ?_ | refine RGo.nil (by kernel_rfl) ?_))
   refine AWP.cond_t rfl (by first | rfl | assumption) ?_
   (repeat (first | refine WK ?_ | refine All.i fun X=>?_ | refine AllY.i fun Y=>?_))
   (refine AWP.ret ?_;(repeat (first | refine inB_r ?_ | refine andThen_r ?_));refine retQ_r ?_);refine Ends.ps ?_
   rw [← hwe,if_pos (by rw [hst];rfl)]
  ·(repeat refine WF ?_);refine AWP.region_run (by kernel_rfl) (by kernel_rfl) ?_;(repeat (first | (refine RGo.gN ?_;first | (refine RGo.g_callf ?_;first | refine RGo.c2 (h:=(hh ..)) (k:=?_))) | (refine RGo.gQ ?_;first | (refine RGo.g_callf ?_;first | refine RGo.c2 (h:=(hh ..)) (k:=?_))) | refine RK ?_ | refine RGo.nil (by kernel_rfl) ?_))
   refine AWP.cond_f rfl (by first | rfl | assumption) ?_
   (repeat (first | refine WK ?_ | refine All.i fun X=>?_ | refine AllY.i fun Y=>?_))
   refine lp_next2 (i + 1) n ⟨h,by omega,hst.symm⟩
 ·have h:i = items.length:=by rw [decide_eq_false_iff_not,him] at hd';omega
  (repeat (first | refine WK ?_ | refine All.i fun X=>?_ | refine AllY.i fun Y=>?_))
  (refine AWP.ret ?_;(repeat (first | refine inB_r ?_ | refine andThen_r ?_));refine retQ_r ?_);refine Ends.ps ?_
  rw [← hwe,if_neg (by rw [← he,h,List.drop_length];simp [itemsFrom])]
def SortC (l:List Comp):Prop:=l.Pairwise fun a b=>a.kind < b.kind
theorem nodup_le {α:Type} (g:α → Int):∀ (n:Nat) (l:List α),l.Pairwise (fun a b=>g a ≠ g b) → (∀ a ∈ l,0 ≤ g a ∧ g a < n) → l.length ≤ n:=by
 intro n l h1 h2
 have h3:(l.map fun a=>(g a).toNat).Nodup:=by
  rw [List.Nodup,List.pairwise_map]
  refine h1.imp_of_mem fun {a b} ha hb e=>?_
  have:=h2 a ha
  have:=h2 b hb
  omega
 have h4:=List.Nodup.length_le_of_subset h3 (l₂:=List.range n) (fun x hx=>by
  obtain ⟨a,ha,rfl⟩:=List.mem_map.1 hx
  have:=h2 a ha
  exact List.mem_range.2 (by omega))
 simpa using h4
theorem genFields_len (i c:Nat) (l:List Int):(genFields i c l).1.length = c:=by
 induction c generalizing i l with
 | zero=>rfl
 | succ c ih=>simp [genFields,ih]
theorem genFields_names (i c:Nat) (l:List Int):(genFields i c l).1.map (·.name) = (List.range' i c).map fieldName:=by
 induction c generalizing i l with
 | zero=>rfl
 | succ c ih =>
  have:(genField i l).1.name = fieldName i:=by unfold genField;split <;> rfl
  simp [genFields,ih,List.range'_succ,this]
theorem genKindsFrom_len (k c:Nat) (l:List Int):(genKindsFrom k c l).1.length = c:=by
 induction c generalizing k l with
 | zero=>rfl
 | succ c ih=>simp [genKindsFrom,ih]
theorem genKindsFrom_names (k c:Nat) (l:List Int):(genKindsFrom k c l).1.map (·.name) = (List.range' k c).map kindName:=by
 induction c generalizing k l with
 | zero=>rfl
 | succ c ih=>simp [genKindsFrom,ih,List.range'_succ,genKind]
theorem fieldName_ok (i:Nat):nameOk (fieldName i) = true:=by
 unfold fieldName
 split <;> decide
theorem kindName_ok (i:Nat):nameOk (kindName i) = true:=by
 unfold kindName
 split <;> decide
theorem genField_ok (i:Nat) (l:List Int):fieldErr (genField i l).1 = 0:=by
 have h1:=nextV_range l (n:=9) (by omega)
 have h2:=nextV_range (nextL l 9) (n:=40) (by omega)
 unfold genField
 split
 ·simp [fieldErr,fieldName_ok]
 ·simp [fieldErr,fieldName_ok]
  omega
theorem genFields_ok (i c:Nat) (l:List Int):∀ f ∈ (genFields i c l).1,fieldErr f = 0:=by
 induction c generalizing i l with
 | zero=>intro f h;simp [genFields] at h
 | succ c ih =>
  intro f h
  simp only [genFields,List.mem_cons] at h
  rcases h with rfl | h
  ·exact genField_ok i l
  ·exact ih _ _ f h
theorem fieldsErr_nil0:∀ (fs pre:List Field),(∀ f ∈ fs,fieldErr f = 0) → ((pre ++ fs).map (·.name)).Nodup → fieldsErr pre fs = 0:=by
 intro fs
 induction fs with
 | nil=>intro pre _ _;rfl
 | cons f fs ih =>
  intro pre h hn
  have h1:=h f (by simp)
  have h2:pre.any (fun o=>o.name == f.name) = false:=by
   rw [List.any_eq_false]
   intro o ho
   simp only [beq_iff_eq]
   intro e
   rw [List.map_append,List.nodup_append] at hn
   exact hn.2.2 o.name (List.mem_map_of_mem ho) f.name (by simp) e
  simp only [fieldsErr,h1,h2]
  simp
  exact ih _ (fun x hx=>h x (by simp [hx])) (by simpa using hn)
theorem kindsErr_zero:∀ (ks pre:List Kind),(∀ k ∈ ks,oneErr k = 0) → ((pre ++ ks).map (·.name)).Nodup → kindsErr pre ks = 0:=by
 intro fs
 induction fs with
 | nil=>intro pre _ _;rfl
 | cons f fs ih =>
  intro pre h hn
  have h1:=h f (by simp)
  have h2:pre.any (fun o=>o.name == f.name) = false:=by
   rw [List.any_eq_false]
   intro o ho
   simp only [beq_iff_eq]
   intro e
   rw [List.map_append,List.nodup_append] at hn
   exact hn.2.2 o.name (List.mem_map_of_mem ho) f.name (by simp) e
  simp only [kindsErr,h1,h2]
  simp
  exact ih _ (fun x hx=>h x (by simp [hx])) (by simpa using hn)
theorem fieldNames_nodup {c:Nat} (h:c ≤ 3):((List.range' 0 c).map fieldName).Nodup:=by
 have:c = 0 ∨ c = 1 ∨ c = 2 ∨ c = 3:=by omega
 rcases this with rfl | rfl | rfl | rfl <;> decide
theorem kindNames_nodup {c:Nat} (h:c ≤ 4):((List.range' 0 c).map kindName).Nodup:=by
 have:c = 0 ∨ c = 1 ∨ c = 2 ∨ c = 3 ∨ c = 4:=by omega
 rcases this with rfl | rfl | rfl | rfl | rfl <;> decide
theorem genKind_ok (k:Nat) (l:List Int):oneErr (genKind k l).1 = 0:=by
 have h1:=nextV_range l (n:=3) (by omega)
 have h2:(1 + nextV l 3).toNat ≤ 3:=by omega
 have h3:=fieldsErr_nil0 (genFields 0 (1 + nextV l 3).toNat (nextL l 3)).1 [] (genFields_ok _ _ _) (by
  rw [List.nil_append,genFields_names]
  exact fieldNames_nodup h2)
 have h4:=genFields_len 0 (1 + nextV l 3).toNat (nextL l 3)
 unfold oneErr genKind
 simp only [kindName_ok,h3,h4,if_true]
 rw [if_neg (by omega)]
theorem genKindsFrom_ok (i c:Nat) (l:List Int):∀ f ∈ (genKindsFrom i c l).1,oneErr f = 0:=by
 induction c generalizing i l with
 | zero=>intro f h;simp [genKindsFrom] at h
 | succ c ih =>
  intro f h
  simp only [genKindsFrom,List.mem_cons] at h
  rcases h with rfl | h
  ·exact genKind_ok i l
  ·exact ih _ _ f h
theorem genKinds_len (l:List Int):1 ≤ (genKinds l).1.length ∧ (genKinds l).1.length ≤ 4:=by
 have h:=nextV_range l (n:=4) (by omega)
 unfold genKinds
 rw [genKindsFrom_len]
 omega
theorem genKinds_nodup (l:List Int):((genKinds l).1.map (·.name)).Nodup:=by
 have h:=nextV_range l (n:=4) (by omega)
 unfold genKinds
 rw [genKindsFrom_names]
 exact kindNames_nodup (by omega)
theorem genKinds_ok (l:List Int):∀ k ∈ (genKinds l).1,oneErr k = 0:=genKindsFrom_ok _ _ _
theorem genKinds_check (l:List Int):checkErr (genKinds l).1 = 0:=by
 unfold checkErr
 have:=genKinds_len l
 rw [if_neg (by omega)]
 exact kindsErr_zero _ [] (genKinds_ok l) (genKinds_nodup l)
theorem near_low {f:Field} (h:fieldErr f = 0) (v:Int):f.low ≤ nearOf f v ∧ nearOf f v ≤ highOf f:=by
 have:=highOf_bd h
 unfold nearOf
 rw [if_pos h]
 omega
theorem near_in {f:Field} (h:fieldErr f = 0) {v:Int} (h1:f.low ≤ v) (h2:v ≤ highOf f):nearOf f v = v:=by
 unfold nearOf
 rw [if_pos h]
 omega
theorem near_near {f:Field} (h:fieldErr f = 0) (v:Int):nearOf f (nearOf f v) = nearOf f v:=near_in h (near_low h v).1 (near_low h v).2
theorem near_fits {fs:List Field} (h:∀ f ∈ fs,fieldErr f = 0) (vals:List Int):List.zipWith nearOf fs (List.zipWith nearOf fs vals) = List.zipWith nearOf fs vals:=by
 induction fs generalizing vals with
 | nil=>rfl
 | cons f fs ih =>
  cases vals with
  | nil=>rfl
  | cons v vals=>simp [near_near (h f (by simp)),ih (fun x hx=>h x (by simp [hx]))]
theorem fitOf_ok {k:Kind} (h:oneErr k = 0) {vals:List Int} (hl:vals.length = k.fields.length):fitOf k vals = (List.zipWith nearOf k.fields vals,0):=by
 unfold fitOf
 rw [if_neg (by simp [h]),if_neg (by simp [hl])]
theorem genKind_fields (k:Nat) (l:List Int):(∀ f ∈ (genKind k l).1.fields,fieldErr f = 0) ∧ (genKind k l).1.fields.length ≤ 3:=by
 have h1:=nextV_range l (n:=3) (by omega)
 refine ⟨genFields_ok _ _ _,?_⟩
 show (genFields _ _ _).1.length ≤ 3
 rw [genFields_len]
 omega
theorem genKindsFrom_fields (i c:Nat) (l:List Int):∀ k ∈ (genKindsFrom i c l).1,(∀ f ∈ k.fields,fieldErr f = 0) ∧ k.fields.length ≤ 3:=by
 induction c generalizing i l with
 | zero=>intro f h;simp [genKindsFrom] at h
 | succ c ih =>
  intro f h
  simp only [genKindsFrom,List.mem_cons] at h
  rcases h with rfl | h
  ·exact genKind_fields i l
  ·exact ih _ _ f h
theorem genKinds_fields (l:List Int):∀ k ∈ (genKinds l).1,(∀ f ∈ k.fields,fieldErr f = 0) ∧ k.fields.length ≤ 3:=genKindsFrom_fields _ _ _
def vAt (fs:List Field) (l:List Int):Nat → List Int × List Int
 | 0=>([],l)
 | i + 1=>match fs[i]? with
  | some f=>((vAt fs l i).1 ++ [f.low + nextV (vAt fs l i).2 (2 ^ f.bits.toNat)],nextL (vAt fs l i).2 (2 ^ f.bits.toNat))
  | none=>vAt fs l i
def cAt (ks:List Kind) (l:List Int):Nat → List Comp × List Int
 | 0=>([],l)
 | i + 1=>match ks[i]? with
  | some k=>if nextV (cAt ks l i).2 3 = 2 then ((cAt ks l i).1,nextL (cAt ks l i).2 3)
   else ((cAt ks l i).1 ++ [⟨i,(vAt k.fields (nextL (cAt ks l i).2 3) k.fields.length).1⟩],(vAt k.fields (nextL (cAt ks l i).2 3) k.fields.length).2)
  | none=>cAt ks l i
def genComps (ks:List Kind) (l:List Int):List Comp × List Int:=cAt ks l ks.length
def wAt (ks:List Kind) (l:List Int):Nat → List Int × List Item × List Int
 | 0=>([],[],l)
 | i + 1 =>
  if nextV (nextL (wAt ks l i).2.2 3) 4 = 3 ∨ (wAt ks l i).2.1.length = 8 then ((wAt ks l i).1 ++ [nextV (wAt ks l i).2.2 3],(wAt ks l i).2.1,nextL (nextL (wAt ks l i).2.2 3) 4)
  else ((wAt ks l i).1 ++ [nextV (wAt ks l i).2.2 3],(wAt ks l i).2.1 ++ [⟨⟨i,nextV (wAt ks l i).2.2 3⟩,(genComps ks (nextL (nextL (wAt ks l i).2.2 3) 4)).1⟩],(genComps ks (nextL (nextL (wAt ks l i).2.2 3) 4)).2)
def genWorld (l:List Int):Wd :=
 ⟨(genKinds l).1,(wAt (genKinds l).1 (nextL (genKinds l).2 12) (nextV (genKinds l).2 12).toNat).1,(wAt (genKinds l).1 (nextL (genKinds l).2 12) (nextV (genKinds l).2 12).toNat).2.1⟩
def FieldOK (f:Field):Prop:=0 ≤ f.bits ∧ f.bits ≤ 32 ∧ -2147483648 ≤ f.low ∧ f.low ≤ 2147483648
def KindsOK (ks:List Kind):Prop:=ks.length ≤ 1099511627776 ∧ ∀ k ∈ ks,k.fields.length ≤ 1099511627776 ∧ ∀ f ∈ k.fields,FieldOK f
end Go.Proofs.Ytnlekapghebhlaa
