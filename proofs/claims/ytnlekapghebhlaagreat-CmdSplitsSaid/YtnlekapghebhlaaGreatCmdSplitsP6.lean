/-
  Part 6 of the texts under the law CmdSplits: the layer of abstract values, walks and plain laws. Conditions: those that each theorem names.
-/
import Derived.Sort.AssemblyPlain
import Derived.Test.YtnlekapghebhlaaGreatCmdSplitsP5
namespace Go.Proofs.YtnlekapghebhlaaGreat
set_option linter.unusedVariables false
set_option linter.unusedSimpArgs false
def lowc (c:UInt8):Bool:=decide (97 ≤ c) && decide (c ≤ 122)
def digc (c:UInt8):Bool:=decide (48 ≤ c) && decide (c ≤ 57)
def chOk (l:List UInt8) (j:Nat):Bool:=lowc (l.getD j 0) || (decide (0 < j) && digc (l.getD j 0))
def nameOk (l:List UInt8):Bool:=decide (0 < l.length) && decide (l.length ≤ 16) && (List.range l.length).all (chOk l)
def fieldErr (f:Field):Int:=if nameOk f.name && decide (1 ≤ f.bits) && decide (f.bits ≤ 32) && decide (-4294967296 ≤ f.low) && decide (f.low ≤ 4294967296) then 0 else 3
def fieldsErr:List Field → List Field → Int
 | _,[]=>0
 | pre,f :: fs=>if fieldErr f ≠ 0 then fieldErr f else if pre.any (fun o=>o.name == f.name) then 5 else fieldsErr (pre ++ [f]) fs
def oneErr (k:Kind):Int:=if nameOk k.name then (if 8 < k.fields.length then 2 else fieldsErr [] k.fields) else 3
def findKind (l:List Kind) (name:List UInt8):Int :=
 match l.findIdx? (fun k=>k.name == name) with
 | some i=>i
 | none=>-1
def kindsErr:List Kind → List Kind → Int
 | _,[]=>0
 | pre,k :: ks=>if oneErr k ≠ 0 then oneErr k else if pre.any (fun o=>o.name == k.name) then 5 else kindsErr (pre ++ [k]) ks
def checkErr (l:List Kind):Int:=if 16 < l.length then 2 else kindsErr [] l
def highOf (f:Field):Int:=if fieldErr f = 0 then f.low + (2 ^ f.bits.toNat - 1) else 0
def nearOf (f:Field) (v:Int):Int:=if fieldErr f = 0 then max f.low (min v (highOf f)) else 0
def fitOf (k:Kind) (vals:List Int):List Int × Int :=
 if oneErr k ≠ 0 then ([],oneErr k) else if vals.length ≠ k.fields.length then ([],1) else (List.zipWith nearOf k.fields vals,0)
def holdsOf (k:Kind) (vals:List Int):Bool:=decide ((fitOf k vals).2 = 0) && decide ((fitOf k vals).1 = vals)
theorem findKind_none {l:List Kind} {name:List UInt8} (h:∀ j (hj:j < l.length),l[j].name ≠ name):findKind l name = -1:=by
 have:l.findIdx? (fun k=>k.name == name) = none:=by
  rw [List.findIdx?_eq_none_iff]
  intro x hx
  obtain ⟨j,hj,rfl⟩:=List.getElem_of_mem hx
  simpa using h j hj
 simp [findKind,this]
theorem findKind_some {l:List Kind} {name:List UInt8} {i:Nat} (hi:i < l.length) (e:l[i].name = name) (h:∀ j (hj:j < i),(l[j]'(by omega)).name ≠ name):findKind l name = i:=by
 have:l.findIdx? (fun k=>k.name == name) = some i:=by
  rw [List.findIdx?_eq_some_iff_getElem]
  refine ⟨hi,by simpa using e,fun j hj=>?_⟩
  simpa using h j hj
 simp [findKind,this]
theorem kindsErr_bad {pre:List Kind} {k:Kind} {ks:List Kind} (h:oneErr k ≠ 0):kindsErr pre (k :: ks) = oneErr k:=by
 simp [kindsErr,h]
theorem kindsErr_twice {pre:List Kind} {k:Kind} {ks:List Kind} (h:oneErr k = 0) (hf:0 ≤ findKind pre k.name):kindsErr pre (k :: ks) = 5:=by
 have:pre.any (fun o=>o.name == k.name) = true:=by
  rcases hc:pre.any (fun o=>o.name == k.name) with _ | _
  ·exfalso
   rw [List.any_eq_false] at hc
   rw [findKind_none (fun j hj=>by simpa using hc _ (List.getElem_mem hj))] at hf
   omega
  ·rfl
 simp [kindsErr,h,this]
theorem kindsErr_next {pre:List Kind} {k:Kind} {ks:List Kind} (h:oneErr k = 0) (hf:findKind pre k.name < 0):kindsErr pre (k :: ks) = kindsErr (pre ++ [k]) ks:=by
 have:pre.any (fun o=>o.name == k.name) = false:=by
  rcases hc:pre.any (fun o=>o.name == k.name) with _ | _
  ·rfl
  ·exfalso
   rw [List.any_eq_true] at hc
   obtain ⟨x,hx,e⟩:=hc
   unfold findKind at hf
   split at hf
   ·omega
   ·rename_i hn
    rw [List.findIdx?_eq_none_iff] at hn
    exact absurd e (by simpa using hn x hx)
 simp [kindsErr,h,this]
theorem kindsErr_at {l:List Kind} {i:Nat} (hi:i < l.length):kindsErr (l.take i) (l.drop i) = kindsErr (l.take i) (l[i] :: l.drop (i + 1)):=by
 rw [List.drop_eq_getElem_cons hi]
theorem kindsErr_end {l:List Kind} {i:Nat} (hi:l.length ≤ i):kindsErr (l.take i) (l.drop i) = 0:=by
 rw [List.drop_of_length_le hi];rfl
theorem fieldErr_ok (f:Field) (h:nameOk f.name = true) (hb:1 ≤ f.bits ∧ f.bits ≤ 32 ∧ -4294967296 ≤ f.low ∧ f.low ≤ 4294967296):fieldErr f = 0:=by
 simp [fieldErr,h,hb]
theorem fieldErr_no (f:Field) (h:nameOk f.name = true → ¬ (1 ≤ f.bits ∧ f.bits ≤ 32 ∧ -4294967296 ≤ f.low ∧ f.low ≤ 4294967296)):fieldErr f = 3:=by
 unfold fieldErr
 rw [if_neg]
 simp only [Bool.and_eq_true,decide_eq_true_eq]
 intro hc
 exact h hc.1.1.1.1 ⟨hc.1.1.1.2,hc.1.1.2,hc.1.2,hc.2⟩
theorem fieldErr_eq_zero (f:Field):fieldErr f = 0 ↔ nameOk f.name = true ∧ 1 ≤ f.bits ∧ f.bits ≤ 32 ∧ -4294967296 ≤ f.low ∧ f.low ≤ 4294967296:=by
 constructor
 ·intro h
  unfold fieldErr at h
  split at h
  ·rename_i hc
   simpa [and_assoc] using hc
  ·simp at h
 ·rintro ⟨h,hb⟩
  exact fieldErr_ok f h hb
theorem fieldsErr_bad {pre:List Field} {f:Field} {fs:List Field} (h:fieldErr f ≠ 0):fieldsErr pre (f :: fs) = fieldErr f:=by
 simp [fieldsErr,h]
theorem fieldsErr_twice {pre:List Field} {f:Field} {fs:List Field} (h:fieldErr f = 0) {j:Nat} (hj:j < pre.length) (e:pre[j].name = f.name):fieldsErr pre (f :: fs) = 5:=by
 have:pre.any (fun o=>o.name == f.name) = true:=by
  rw [List.any_eq_true]
  exact ⟨pre[j],List.getElem_mem hj,by simp [e]⟩
 simp [fieldsErr,h,this]
theorem fieldsErr_next {pre:List Field} {f:Field} {fs:List Field} (h:fieldErr f = 0) (e:∀ j (hj:j < pre.length),pre[j].name ≠ f.name):fieldsErr pre (f :: fs) = fieldsErr (pre ++ [f]) fs:=by
 have:pre.any (fun o=>o.name == f.name) = false:=by
  rw [List.any_eq_false]
  intro x hx
  obtain ⟨j,hj,rfl⟩:=List.getElem_of_mem hx
  simpa using e j hj
 simp [fieldsErr,h,this]
theorem fieldsErr_at {l:List Field} {i:Nat} (hi:i < l.length):fieldsErr (l.take i) (l.drop i) = fieldsErr (l.take i) (l[i] :: l.drop (i + 1)):=by
 rw [List.drop_eq_getElem_cons hi]
theorem fieldsErr_end {l:List Field} {i:Nat} (hi:l.length ≤ i):fieldsErr (l.take i) (l.drop i) = 0:=by
 rw [List.drop_of_length_le hi];rfl
theorem nameOk_no (l:List UInt8) (j:Nat) (hj:j < l.length) (h:chOk l j = false):nameOk l = false:=by
 have:(List.range l.length).all (chOk l) = false:=by
  rw [List.all_eq_false]
  exact ⟨j,List.mem_range.2 hj,by simp [h]⟩
 simp [nameOk,this]
theorem nameOk_yes (l:List UInt8) (h0:0 < l.length) (h1:l.length ≤ 16) (h:∀ j,j < l.length → chOk l j = true):nameOk l = true:=by
 have:(List.range l.length).all (chOk l) = true:=by
  rw [List.all_eq_true]
  intro x hx
  exact h x (List.mem_range.1 hx)
 simp [nameOk,this,h0,h1]
theorem nameOk_long (l:List UInt8) (h:l.length = 0 ∨ 16 < l.length):nameOk l = false:=by
 rcases h with h | h
 ·simp [nameOk,h]
 ·simp [nameOk,show ¬ l.length ≤ 16 from by omega]
theorem pow_bits {b:Int} (h1:1 ≤ b) (h2:b ≤ 32):(2:Int) ≤ 2 ^ b.toNat ∧ (2:Int) ^ b.toNat ≤ 4294967296:=by
 obtain ⟨n,rfl⟩:∃ n:Nat,b = n:=⟨b.toNat,by omega⟩
 rw [Int.toNat_natCast]
 have h:n = 1 ∨ n = 2 ∨ n = 3 ∨ n = 4 ∨ n = 5 ∨ n = 6 ∨ n = 7 ∨ n = 8 ∨ n = 9 ∨ n = 10 ∨ n = 11 ∨ n = 12 ∨ n = 13 ∨ n = 14 ∨ n = 15 ∨ n = 16 ∨ n = 17 ∨ n = 18 ∨ n = 19 ∨ n = 20 ∨ n = 21 ∨ n = 22 ∨ n = 23 ∨ n = 24 ∨ n = 25 ∨ n = 26 ∨ n = 27 ∨ n = 28 ∨ n = 29 ∨ n = 30 ∨ n = 31 ∨ n = 32:=by omega
 rcases h with rfl | rfl | rfl | rfl | rfl | rfl | rfl | rfl | rfl | rfl | rfl | rfl | rfl | rfl | rfl | rfl | rfl | rfl | rfl | rfl | rfl | rfl | rfl | rfl | rfl | rfl | rfl | rfl | rfl | rfl | rfl | rfl <;> decide
theorem highOf_eq {f:Field} (h:fieldErr f = 0):highOf f = f.low + (2 ^ f.bits.toNat - 1):=by simp [highOf,h]
theorem highOf_bd {f:Field} (h:fieldErr f = 0):f.low < highOf f ∧ highOf f ≤ 8589934592:=by
 have hb:=(fieldErr_eq_zero f).1 h
 have:=pow_bits hb.2.1 hb.2.2.1
 rw [highOf_eq h]
 omega
theorem fieldsErr_zero {pre l:List Field} (h:fieldsErr pre l = 0):∀ f ∈ l,fieldErr f = 0:=by
 induction l generalizing pre with
 | nil=>intro f hf;cases hf
 | cons x l ih =>
  intro f hf
  simp only [fieldsErr] at h
  split at h
  ·rename_i hx;exact absurd h hx
  ·rename_i hx
   split at h
   ·simp at h
   ·rcases List.mem_cons.1 hf with rfl | hf
    ·simpa using hx
    ·exact ih h f hf
theorem oneErr_zero {k:Kind} (h:oneErr k = 0):nameOk k.name = true ∧ k.fields.length ≤ 8 ∧ ∀ f ∈ k.fields,fieldErr f = 0:=by
 unfold oneErr at h
 split at h
 ·rename_i h1
  split at h
  ·simp at h
  ·rename_i h2
   exact ⟨h1,by omega,fieldsErr_zero h⟩
 ·simp at h
def baseKind:Kind:=⟨[108,105,102,101],[⟨[120],8,0⟩]⟩
def baseWd:Wd:=⟨[baseKind],[0],[⟨⟨0,0⟩,[⟨0,[9]⟩]⟩]⟩
theorem base_ps:PS Tryz.prog 34 [] (wdA false baseWd):=by
 refine Spec.of (nt:=14) (res:=[.cell 0 26]) Tryz.func34 rfl (by kernel_rfl) rfl rfl rfl fun Sf=>?_
 (repeat (first | refine WK ?_ | refine All.i fun X=>?_ | refine AllY.i fun Y=>?_))
 (refine AWP.ret ?_;(repeat (first | refine inB_r ?_ | refine andThen_r ?_));refine retQ_r ?_)
 refine Ends.id (rs:=[wdA false baseWd]) rfl (.cons (.cell (p:=0) rfl .here TAg.h TSize.h rfl rfl) rfl .nil)
theorem equalI_ps (a b:List Int) (hl:a.length ≤ 1099511627776):PS Tryz.prog 23 [intsA false a,intsA false b] (bA (decide (a = b))):=by
 refine Spec.of (nt:=26) (res:=[.tmp 4]) Tryz.func23 rfl (by kernel_rfl) rfl rfl rfl fun Sf=>?_
 (repeat (first | refine WK ?_ | refine All.i fun X=>?_ | refine AllY.i fun Y=>?_))
 refine AWP.cond rfl (fun hb=>?_) (fun hb=>?_)
 ·have hb:a.length ≠ b.length:=by simp at hb;omega
  (repeat (first | refine WK ?_ | refine All.i fun X=>?_ | refine AllY.i fun Y=>?_))
  (refine AWP.ret ?_;(repeat (first | refine inB_r ?_ | refine andThen_r ?_));refine retQ_r ?_);refine Ends.ps ?_
  rw [decide_eq_false fun e=>hb (by rw [e])]
 ·have hb:a.length = b.length:=by simp at hb;omega
  (repeat (first | refine WK ?_ | refine All.i fun X=>?_ | refine AllY.i fun Y=>?_))
  refine AWP.lp (fun i:Nat=>⟨[(0,intsA false a),(1,intsA false b),(12,iA (a.map iA).length),(13,iA i)],Sf⟩) (fun i=>i ≤ a.length ∧ ∀ j (h:j < a.length),j < i → a[j] = b[j]'(by omega)) (fun i=>a.length - i) 0 ⟨Nat.zero_le _,fun j h hj=>absurd hj (by omega)⟩ ?_
  rintro i ⟨hi,he⟩
  (repeat (first | refine WK ?_ | refine All.i fun X=>?_ | refine AllY.i fun Y=>?_))
  refine AWP.cond rfl (fun hc=>?_) (fun hc=>?_)
  ·have h:i < a.length:=by simpa using hc
   have h':i < b.length:=by omega
   (repeat (first | refine WK ?_ | refine All.i fun X=>?_ | refine AllY.i fun Y=>?_))
   (repeat refine WF ?_);refine AWP.region_run (by kernel_rfl) (by kernel_rfl) ?_;(repeat (first | refine RK ?_ | refine RGo.nil (by kernel_rfl) ?_))
   (repeat (first | refine WK ?_ | refine All.i fun X=>?_ | refine AllY.i fun Y=>?_))
   refine AWP.cond rfl (fun hd=>?_) (fun hd=>?_)
   ·have hd:a[i] ≠ b[i]:=by simpa using hd
    (repeat (first | refine WK ?_ | refine All.i fun X=>?_ | refine AllY.i fun Y=>?_))
    (refine AWP.ret ?_;(repeat (first | refine inB_r ?_ | refine andThen_r ?_));refine retQ_r ?_);refine Ends.ps ?_
    rw [decide_eq_false fun e=>hd (by subst e;rfl)]
   ·have hd:a[i] = b[i]:=by simpa using hd
    (repeat (first | refine WK ?_ | refine All.i fun X=>?_ | refine AllY.i fun Y=>?_))
    refine lp_next (i + 1) ⟨h,fun j h1 h2=>?_⟩
    by_cases e:j = i
    ·subst e;exact hd
    ·exact he j h1 (by omega)
  ·have h:¬ i < a.length:=by simpa using hc
   (repeat (first | refine WK ?_ | refine All.i fun X=>?_ | refine AllY.i fun Y=>?_))
   (refine AWP.ret ?_;(repeat (first | refine inB_r ?_ | refine andThen_r ?_));refine retQ_r ?_);refine Ends.ps ?_
   rw [decide_eq_true (List.ext_getElem hb fun j h1 h2=>he j h1 (by omega))]
def eqF {α:Type} (p:α → α → Bool):List α → List α → Bool
 | [],[]=>true
 | x :: xs,y :: ys=>p x y && eqF p xs ys
 | _,_=>false
theorem eqF_len {α:Type} {p:α → α → Bool}:{a b:List α} → a.length ≠ b.length → eqF p a b = false
 | [],[],h=>absurd rfl h
 | [],_ :: _,_=>rfl
 | _ :: _,[],_=>rfl
 | x :: xs,y :: ys,h=>by rw [eqF,eqF_len (by simpa using h),Bool.and_false]
theorem eqF_no {α:Type} {p:α → α → Bool}:{a b:List α} → (hl:a.length = b.length) → {i:Nat} → (h:i < a.length) → p a[i] (b[i]'(by omega)) = false → eqF p a b = false
 | [],_,_,_,h,_=>absurd h (by simp)
 | x :: xs,[],hl,_,_,_=>by simp at hl
 | x :: xs,y :: ys,hl,0,h,hp=>by rw [eqF,show p x y = false from hp,Bool.false_and]
 | x :: xs,y :: ys,hl,i + 1,h,hp=>by
  rw [eqF,eqF_no (a:=xs) (b:=ys) (by simpa using hl) (i:=i) (by simpa using h) hp,Bool.and_false]
theorem eqF_yes {α:Type} {p:α → α → Bool}:{a b:List α} → (hl:a.length = b.length) → (∀ i (h:i < a.length),p a[i] (b[i]'(by omega)) = true) → eqF p a b = true
 | [],[],_,_=>rfl
 | [],_ :: _,hl,_=>by simp at hl
 | x :: xs,[],hl,_=>by simp at hl
 | x :: xs,y :: ys,hl,h=>by
  rw [eqF,show p x y = true from h 0 (by simp),eqF_yes (a:=xs) (b:=ys) (by simpa using hl) fun i hi=>h (i + 1) (by simpa using hi)];rfl
theorem eqF_eq {α:Type} {p:α → α → Bool} [DecidableEq α]:{a b:List α} → (∀ x ∈ a,∀ y ∈ b,p x y = decide (x = y)) → eqF p a b = decide (a = b)
 | [],[],_=>rfl
 | [],_ :: _,_=>rfl
 | _ :: _,[],_=>rfl
 | x :: xs,y :: ys,h=>by
  rw [eqF,h x (by simp) y (by simp),eqF_eq fun u hu v hv=>h u (by simp [hu]) v (by simp [hv])]
  by_cases e:x = y <;> by_cases e2:xs = ys <;> simp [e,e2]
theorem equalFuncC_ps (a b:List Comp) (f:FuncId) (cap:List AV) (p:Comp → Comp → Bool) (hs:st1s cap = true) (hl:a.length ≤ 4611686018427387904) (hf:∀ x ∈ a,∀ y ∈ b,PS Tryz.prog f ((compA false) x :: (compA false) y :: cap) (bA (p x y))) :
  PS Tryz.prog 106 [.lst false 42 2 (a.map (compA false)),.lst false 42 2 (b.map (compA false)),.fn f cap] (bA (eqF p a b)):=by
 refine Spec.of (nt:=32) (res:=[.tmp 6]) Tryz.func106 rfl (by kernel_rfl) rfl rfl rfl fun Sf=>?_
 (repeat (first | refine WK ?_ | refine All.i fun X=>?_ | refine AllY.i fun Y=>?_))
 refine AWP.cond rfl (fun hb=>?_) (fun hb=>?_)
 ·have hb:a.length ≠ b.length:=by simp at hb;omega
  (repeat (first | refine WK ?_ | refine All.i fun X=>?_ | refine AllY.i fun Y=>?_))
  (refine AWP.ret ?_;(repeat (first | refine inB_r ?_ | refine andThen_r ?_));refine retQ_r ?_);refine Ends.ps ?_
  rw [eqF_len hb]
 ·have hb:a.length = b.length:=by simp at hb;omega
  (repeat (first | refine WK ?_ | refine All.i fun X=>?_ | refine AllY.i fun Y=>?_))
  refine AWP.lp (fun i:Nat=>⟨[(0,.lst false 42 2 (a.map (compA false))),(1,.lst false 42 2 (b.map (compA false))),(2,.fn f cap),(15,.lst false 42 2 (a.map (compA false))),(16,iA (a.map (compA false)).length),(17,iA i)],Sf⟩) (fun i=>i ≤ a.length ∧ ∀ j (h:j < a.length),j < i → p a[j] (b[j]'(by omega)) = true) (fun i=>a.length - i) 0 ⟨Nat.zero_le _,fun j h hj=>absurd hj (by omega)⟩ ?_
  rintro i ⟨hi,he⟩
  (repeat (first | refine WK ?_ | refine All.i fun X=>?_ | refine AllY.i fun Y=>?_))
  refine AWP.cond rfl (fun hc=>?_) (fun hc=>?_)
  ·have h:i < a.length:=by simpa using hc
   have h':i < b.length:=by omega
   (repeat (first | (refine AOps.gN ?_;first | (refine AOps.g_callv ?_;first | refine AOps.k2 (h:=(hf _ (List.getElem_mem h) _ (List.getElem_mem h'))) (k:=?_))) | refine WK ?_ | refine All.i fun X=>?_ | refine AllY.i fun Y=>?_))
   refine AWP.cond rfl (fun hd=>?_) (fun hd=>?_)
   ·have hd:p a[i] b[i] = false:=by simpa using hd
    (repeat (first | refine WK ?_ | refine All.i fun X=>?_ | refine AllY.i fun Y=>?_))
    (refine AWP.ret ?_;(repeat (first | refine inB_r ?_ | refine andThen_r ?_));refine retQ_r ?_);refine Ends.ps ?_
    rw [eqF_no hb h hd]
   ·have hd:p a[i] b[i] = true:=by simpa using hd
    (repeat (first | refine WK ?_ | refine All.i fun X=>?_ | refine AllY.i fun Y=>?_))
    refine lp_next (i + 1) ⟨h,fun j h1 h2=>?_⟩
    by_cases e:j = i
    ·subst e;exact hd
    ·exact he j h1 (by omega)
  ·have h:¬ i < a.length:=by simpa using hc
   (repeat (first | refine WK ?_ | refine All.i fun X=>?_ | refine AllY.i fun Y=>?_))
   (refine AWP.ret ?_;(repeat (first | refine inB_r ?_ | refine andThen_r ?_));refine retQ_r ?_);refine Ends.ps ?_
   rw [eqF_yes hb fun j hj=>he j hj (by omega)]
theorem equalFuncT_ps (a b:List Item) (f:FuncId) (cap:List AV) (p:Item → Item → Bool) (hs:st1s cap = true) (hl:a.length ≤ 4611686018427387904) (hf:∀ x ∈ a,∀ y ∈ b,PS Tryz.prog f ((itemA false) x :: (itemA false) y :: cap) (bA (p x y))) :
  PS Tryz.prog 69 [.lst false 55 3 (a.map (itemA false)),.lst false 55 3 (b.map (itemA false)),.fn f cap] (bA (eqF p a b)):=by
 refine Spec.of (nt:=32) (res:=[.tmp 6]) Tryz.func69 rfl (by kernel_rfl) rfl rfl rfl fun Sf=>?_
 (repeat (first | refine WK ?_ | refine All.i fun X=>?_ | refine AllY.i fun Y=>?_))
 refine AWP.cond rfl (fun hb=>?_) (fun hb=>?_)
 ·have hb:a.length ≠ b.length:=by simp at hb;omega
  (repeat (first | refine WK ?_ | refine All.i fun X=>?_ | refine AllY.i fun Y=>?_))
  (refine AWP.ret ?_;(repeat (first | refine inB_r ?_ | refine andThen_r ?_));refine retQ_r ?_);refine Ends.ps ?_
  rw [eqF_len hb]
 ·have hb:a.length = b.length:=by simp at hb;omega
  (repeat (first | refine WK ?_ | refine All.i fun X=>?_ | refine AllY.i fun Y=>?_))
  refine AWP.lp (fun i:Nat=>⟨[(0,.lst false 55 3 (a.map (itemA false))),(1,.lst false 55 3 (b.map (itemA false))),(2,.fn f cap),(15,.lst false 55 3 (a.map (itemA false))),(16,iA (a.map (itemA false)).length),(17,iA i)],Sf⟩) (fun i=>i ≤ a.length ∧ ∀ j (h:j < a.length),j < i → p a[j] (b[j]'(by omega)) = true) (fun i=>a.length - i) 0 ⟨Nat.zero_le _,fun j h hj=>absurd hj (by omega)⟩ ?_
  rintro i ⟨hi,he⟩
  (repeat (first | refine WK ?_ | refine All.i fun X=>?_ | refine AllY.i fun Y=>?_))
  refine AWP.cond rfl (fun hc=>?_) (fun hc=>?_)
  ·have h:i < a.length:=by simpa using hc
   have h':i < b.length:=by omega
   (repeat (first | (refine AOps.gN ?_;first | (refine AOps.g_callv ?_;first | refine AOps.k2 (h:=(hf _ (List.getElem_mem h) _ (List.getElem_mem h'))) (k:=?_))) | refine WK ?_ | refine All.i fun X=>?_ | refine AllY.i fun Y=>?_))
   refine AWP.cond rfl (fun hd=>?_) (fun hd=>?_)
   ·have hd:p a[i] b[i] = false:=by simpa using hd
    (repeat (first | refine WK ?_ | refine All.i fun X=>?_ | refine AllY.i fun Y=>?_))
    (refine AWP.ret ?_;(repeat (first | refine inB_r ?_ | refine andThen_r ?_));refine retQ_r ?_);refine Ends.ps ?_
    rw [eqF_no hb h hd]
   ·have hd:p a[i] b[i] = true:=by simpa using hd
    (repeat (first | refine WK ?_ | refine All.i fun X=>?_ | refine AllY.i fun Y=>?_))
    refine lp_next (i + 1) ⟨h,fun j h1 h2=>?_⟩
    by_cases e:j = i
    ·subst e;exact hd
    ·exact he j h1 (by omega)
  ·have h:¬ i < a.length:=by simpa using hc
   (repeat (first | refine WK ?_ | refine All.i fun X=>?_ | refine AllY.i fun Y=>?_))
   (refine AWP.ret ?_;(repeat (first | refine inB_r ?_ | refine andThen_r ?_));refine retQ_r ?_);refine Ends.ps ?_
   rw [eqF_yes hb fun j hj=>he j hj (by omega)]
theorem fieldNeq (f g:Field) (w:World):(binOp .neq 85 (.agg [strA f.name,.int .i64 f.bits,.int .i64 f.low].toArray) (.agg [strA g.name,.int .i64 g.bits,.int .i64 g.low].toArray)).run Tryz.prog w = .ok (.bool (decide (f ≠ g))) w:=by
 have h:=eq_three (P:=Tryz.prog) (t:=85) (by kernel_rfl) (by kernel_rfl) (by kernel_rfl) ⟨f.name.toArray⟩ ⟨g.name.toArray⟩ f.bits f.low g.bits g.low w
 rw [run_neq_struct]
 have e:(Op.equalIn 10000 85 (.agg [strA f.name,.int .i64 f.bits,.int .i64 f.low].toArray) (.agg [strA g.name,.int .i64 g.bits,.int .i64 g.low].toArray)).run Tryz.prog w = _:=h
 rw [e,Result.andThen_ok,toList_mk,toList_mk]
 have hd:(!(decide (f.name = g.name) && decide (f.bits = g.bits) && decide (f.low = g.low))) = decide (f ≠ g):=by
  obtain ⟨n,b,l⟩:=f
  obtain ⟨n',b',l'⟩:=g
  rw [Bool.eq_iff_iff]
  simp [or_assoc]
 rw [hd]
def KsL (ks:List Kind):Prop:=ks.length ≤ 1099511627776 ∧ ∀ k ∈ ks,k.fields.length ≤ 1099511627776
def CsL (cs:List Comp):Prop:=cs.length ≤ 1099511627776 ∧ ∀ c ∈ cs,c.vals.length ≤ 1099511627776
def ItL (l:List Item):Prop:=l.length ≤ 1099511627776 ∧ ∀ it ∈ l,CsL it.comps
structure WdL (w:Wd):Prop where
 ks:KsL w.kinds
 gens:w.gens.length ≤ 1099511627776
 items:ItL w.items
theorem compEq (x y:Comp):(decide (x.kind = y.kind) && decide (x.vals = y.vals)) = decide (x = y):=by
 obtain ⟨k,v⟩:=x
 obtain ⟨k',v'⟩:=y
 rw [Bool.eq_iff_iff]
 simp
theorem itemEq (x y:Item):(sameE x.ent y.ent && decide (x.comps = y.comps)) = decide (x = y):=by
 rw [sameE_dec]
 obtain ⟨k,v⟩:=x
 obtain ⟨k',v'⟩:=y
 rw [Bool.eq_iff_iff]
 simp
theorem wdEq (x y:Wd):(decide (x.kinds = y.kinds) && decide (x.gens = y.gens) && decide (x.items = y.items)) = decide (x = y):=by
 obtain ⟨k,v,u⟩:=x
 obtain ⟨k',v',u'⟩:=y
 rw [Bool.eq_iff_iff]
 simp [and_assoc]
def usedB (l:List Item) (n:Int):Bool:=l.any fun it=>decide (it.ent.n = n)
def freeN (w:Wd):Option Nat:=(List.range w.gens.length).find? fun n=>!usedB w.items n && decide (w.gens.getD n 0 < 1073741824)
def freeOf (w:Wd):Nat × Bool:=match freeN w with
 | some n=>(n,true)
 | none=>(w.gens.length,decide ((w.gens.length:Int) < 256))
theorem chOk_int (s:List UInt8) (i:Nat):chOk s i = (decide ((97:Int) ≤ (s.getD i 0).toNat) && decide (((s.getD i 0).toNat:Int) ≤ 122) || decide ((0:Int) < i) && decide ((48:Int) ≤ (s.getD i 0).toNat) && decide (((s.getD i 0).toNat:Int) ≤ 57)):=by
 have h:∀ a b:UInt8,decide (a ≤ b) = decide ((a.toNat:Int) ≤ b.toNat):=fun a b=>by simp [UInt8.le_iff_toNat_le]
 have h0:decide (0 < i) = decide ((0:Int) < i):=by simp
 simp only [chOk,lowc,digc,h,h0,Bool.and_assoc]
 rfl
theorem name_ps (s:List UInt8):PS Tryz.prog 135 [sA s] (bA (nameOk s)):=by
 refine Spec.of (nt:=41) (res:=[.tmp 2]) Tryz.func135 rfl (by kernel_rfl) rfl rfl rfl fun Sf=>?_
 (repeat (first | refine WK ?_ | refine All.i fun X=>?_ | refine AllY.i fun Y=>?_))
 refine AWP.cond rfl (fun hb=>?_) (fun hb=>?_)
 ·(repeat (first | refine WK ?_ | refine All.i fun X=>?_ | refine AllY.i fun Y=>?_))
  (refine AWP.ret ?_;(repeat (first | refine inB_r ?_ | refine andThen_r ?_));refine retQ_r ?_)
  refine Ends.plain rfl rfl (by exact Sub.f) ⟨?_,rfl⟩
  rw [nameOk_long s (by simp only [Bool.or_eq_true,decide_eq_true_eq] at hb;omega)]
 have hb1:s.length ≠ 0 ∧ s.length ≤ 16:=by simp only [Bool.or_eq_false_iff,decide_eq_false_iff_not] at hb;omega
 (repeat (first | refine AWP.loopR (fun i:Nat=>⟨[(0,sA s),(14,iA s.length),(15,iA i)],Sf⟩) (fun i=>i ≤ s.length ∧ ∀ j,j < i → chOk s j = true) (fun i=>s.length - i) 0 ⟨by omega,by omega⟩ ⟨.cons rfl (.cons rfl (.cons rfl .nil)),List.Sublist.refl _⟩ ?_ | refine WK ?_ | refine All.i fun X=>?_ | refine AllY.i fun Y=>?_))
 rintro i ⟨hi,hn⟩
 (repeat (first | refine WK ?_ | refine All.i fun X=>?_ | refine AllY.i fun Y=>?_))
 refine AWP.cond rfl (fun hb=>?_) (fun hb=>?_)
 ·have h:i < s.length:=by simpa using hb
  (repeat (first | (refine AOps.gN ?_;first | refine AOps.p (W.idxStr rfl rfl rfl h) rfl ?_) | refine WK ?_ | refine All.i fun X=>?_ | refine AllY.i fun Y=>?_))
  refine AWP.cond rfl (fun hc=>?_) (fun hc=>?_)
  ·(repeat (first | refine WK ?_ | refine All.i fun X=>?_ | refine AllY.i fun Y=>?_))
   (refine AWP.ret ?_;(repeat (first | refine inB_r ?_ | refine andThen_r ?_));refine retQ_r ?_)
   refine Ends.plain rfl rfl (by exact Sub.f) ⟨?_,rfl⟩
   rw [← chOk_int] at hc
   rw [nameOk_no s i h (by simpa using hc)]
  ·(repeat (first | refine WK ?_ | refine All.i fun X=>?_ | refine AllY.i fun Y=>?_))
   refine ⟨i + 1,⟨by omega,fun j hj=>?_⟩,by omega,.cons rfl (.cons rfl (.cons rfl .nil)),by exact Sub.f⟩
   rw [← chOk_int] at hc
   by_cases e:j = i
   ·subst e;simpa using hc
   ·exact hn j (by omega)
 ·have h:¬ i < s.length:=by simpa using hb
  (repeat (first | refine WK ?_ | refine All.i fun X=>?_ | refine AllY.i fun Y=>?_))
  (refine AWP.ret ?_;(repeat (first | refine inB_r ?_ | refine andThen_r ?_));refine retQ_r ?_)
  refine Ends.plain rfl rfl (by exact Sub.f) ⟨?_,rfl⟩
  rw [nameOk_yes s (by omega) hb1.2 fun j hj=>hn j (by omega)]
theorem field_ps (f:Field):PS Tryz.prog 136 [fieldA f] (iA (fieldErr f)):=by
 refine Spec.of (nt:=27) (res:=[.tmp 2]) Tryz.func136 rfl (by kernel_rfl) rfl rfl rfl fun Sf=>?_
 (repeat (first | (refine AOps.gN ?_;first | refine AOps.p (W.call1 rfl (name_ps _) rfl) rfl ?_) | refine WK ?_ | refine All.i fun X=>?_ | refine AllY.i fun Y=>?_))
 refine AWP.cond rfl (fun hb=>?_) (fun hb=>?_)
 ·(repeat (first | refine WK ?_ | refine All.i fun X=>?_ | refine AllY.i fun Y=>?_))
  (refine AWP.ret ?_;(repeat (first | refine inB_r ?_ | refine andThen_r ?_));refine retQ_r ?_)
  refine Ends.plain rfl rfl (by exact Sub.f) ⟨?_,rfl⟩
  rw [fieldErr_no f fun hn hk=>?_]
  simp only [hn,Bool.not_true,Bool.false_or,Bool.or_eq_true,decide_eq_true_eq] at hb
  omega
 ·(repeat (first | refine WK ?_ | refine All.i fun X=>?_ | refine AllY.i fun Y=>?_))
  (refine AWP.ret ?_;(repeat (first | refine inB_r ?_ | refine andThen_r ?_));refine retQ_r ?_)
  refine Ends.plain rfl rfl (by exact Sub.f) ⟨?_,rfl⟩
  simp only [Bool.or_eq_false_iff,Bool.not_eq_false',decide_eq_false_iff_not] at hb
  rw [fieldErr_ok f hb.1.1.1.1 (by omega)]
theorem high_ps (f:Field):PS Tryz.prog 137 [fieldA f] (iA (highOf f)):=by
 refine Spec.of (nt:=13) (res:=[.tmp 2]) Tryz.func137 rfl (by kernel_rfl) rfl rfl rfl fun Sf=>?_
 (repeat (first | (refine AOps.gN ?_;first | refine AOps.p (W.call1 rfl (field_ps _) rfl) rfl ?_) | refine WK ?_ | refine All.i fun X=>?_ | refine AllY.i fun Y=>?_))
 refine AWP.cond rfl (fun hb=>?_) (fun hb=>?_)
 ·have hb:fieldErr f ≠ 0:=by simpa using hb
  (repeat (first | refine WK ?_ | refine All.i fun X=>?_ | refine AllY.i fun Y=>?_))
  (refine AWP.ret ?_;(repeat (first | refine inB_r ?_ | refine andThen_r ?_));refine retQ_r ?_)
  refine Ends.plain rfl rfl (by exact Sub.f) ⟨?_,rfl⟩
  simp [highOf,hb]
 have hb:fieldErr f = 0:=by simpa using hb
 have h1:=(fieldErr_eq_zero f).1 hb
 obtain ⟨n,hn⟩:∃ n:Nat,f.bits = n:=⟨f.bits.toNat,by omega⟩
 have hp:(2:Int) ^ n ≤ 4294967296 ∧ 1 ≤ (2:Int) ^ n:=by
  have hn2:n ≤ 32:=by omega
  clear hn
  have:∀ n,n ≤ 32 → (2:Int) ^ n ≤ 4294967296 ∧ 1 ≤ (2:Int) ^ n:=by decide
  exact this n hn2
 have hw:IntKind.i64.wrap (1 * 2 ^ n) = 2 ^ n:=by rw [Int.one_mul];exact wrap_id (by omega) (by omega)
 (repeat (first | refine WK ?_ | refine All.i fun X=>?_ | refine AllY.i fun Y=>?_))
 (repeat refine WF ?_);refine AWP.region_run (by kernel_rfl) (by kernel_rfl) ?_;(repeat (first | (refine RGo.gN ?_;first | refine RGo.p (W.shl rfl rfl hn (by show n ≤ 64;omega)) rfl ?_ | refine RGo.p (W.sub rfl rfl (by rw [hw];omega)) rfl ?_ | refine RGo.p (W.add rfl rfl (by rw [hw];omega)) rfl ?_) | (refine RGo.gQ ?_;first | refine RGo.p (W.shl rfl rfl hn (by show n ≤ 64;omega)) rfl ?_ | refine RGo.p (W.sub rfl rfl (by rw [hw];omega)) rfl ?_ | refine RGo.p (W.add rfl rfl (by rw [hw];omega)) rfl ?_) | refine RK ?_ | refine RGo.nil (by kernel_rfl) ?_))
 (repeat (first | refine WK ?_ | refine All.i fun X=>?_ | refine AllY.i fun Y=>?_))
 (refine AWP.ret ?_;(repeat (first | refine inB_r ?_ | refine andThen_r ?_));refine retQ_r ?_)
 refine Ends.plain rfl rfl (by exact Sub.f) ⟨?_,rfl⟩
 simp only [hw]
 simp [highOf,hb,hn]
theorem near_ps (f:Field) (v:Int):PS Tryz.prog 114 [fieldA f,iA v] (iA (nearOf f v)):=by
 refine Spec.of (nt:=15) (res:=[.tmp 4]) Tryz.func114 rfl (by kernel_rfl) rfl rfl rfl fun Sf=>?_
 (repeat (first | (refine AOps.gN ?_;first | refine AOps.p (W.call1 rfl (field_ps _) rfl) rfl ?_) | refine WK ?_ | refine All.i fun X=>?_ | refine AllY.i fun Y=>?_))
 refine AWP.cond rfl (fun hb=>?_) (fun hb=>?_)
 ·have hb:fieldErr f ≠ 0:=by simpa using hb
  (repeat (first | refine WK ?_ | refine All.i fun X=>?_ | refine AllY.i fun Y=>?_))
  (refine AWP.ret ?_;(repeat (first | refine inB_r ?_ | refine andThen_r ?_));refine retQ_r ?_)
  refine Ends.plain rfl rfl (by exact Sub.f) ⟨?_,rfl⟩
  simp [nearOf,hb]
 have hb:fieldErr f = 0:=by simpa using hb
 (repeat (first | refine WK ?_ | refine All.i fun X=>?_ | refine AllY.i fun Y=>?_))
 (repeat refine WF ?_);refine AWP.region_run (by kernel_rfl) (by kernel_rfl) ?_;(repeat (first | (refine RGo.gN ?_;first | refine RGo.p (W.call1 rfl (high_ps _) rfl) rfl ?_) | (refine RGo.gQ ?_;first | refine RGo.p (W.call1 rfl (high_ps _) rfl) rfl ?_) | refine RK ?_ | refine RGo.nil (by kernel_rfl) ?_))
 (repeat (first | refine WK ?_ | refine All.i fun X=>?_ | refine AllY.i fun Y=>?_))
 (refine AWP.ret ?_;(repeat (first | refine inB_r ?_ | refine andThen_r ?_));refine retQ_r ?_)
 refine Ends.plain rfl rfl (by exact Sub.f) ⟨?_,rfl⟩
 rw [show nearOf f v = max f.low (min v (highOf f)) from by simp [nearOf,hb]]
 simp only [Int.max_def,Int.min_def]
 congr 2
 (repeat' split) <;> omega
theorem one_ps (k:Kind):PS Tryz.prog 110 [kindA false k] (iA (oneErr k)):=by
 refine Spec.of (nt:=45) (res:=[.tmp 2]) Tryz.func110 rfl (by kernel_rfl) rfl rfl rfl fun Sf=>?_
 (repeat (first | (refine AOps.gN ?_;first | refine AOps.p (W.call1 rfl (name_ps _) rfl) rfl ?_ | (refine AOps.rs fun X1=>?_;refine AOps.s (W.box rfl .here rfl) rfl ?_)) | refine WK ?_ | refine All.i fun X=>?_ | refine AllY.i fun Y=>?_))
 refine AWP.cond rfl (fun hb=>?_) (fun hb=>?_)
 ·(repeat (first | refine WK ?_ | refine All.i fun X=>?_ | refine AllY.i fun Y=>?_))
  (refine AWP.ret ?_;(repeat (first | refine inB_r ?_ | refine andThen_r ?_));refine retQ_r ?_)
  refine Ends.plain rfl rfl (by exact Sub.f) ⟨?_,rfl⟩
  have hb:nameOk k.name = false:=by simpa using hb
  rw [show oneErr k = 3 from by simp [oneErr,hb]]
 have hn:nameOk k.name = true:=by simpa using hb
 (repeat (first | refine WK ?_ | refine All.i fun X=>?_ | refine AllY.i fun Y=>?_))
 refine AWP.cond rfl (fun hb=>?_) (fun hb=>?_)
 ·(repeat (first | refine WK ?_ | refine All.i fun X=>?_ | refine AllY.i fun Y=>?_))
  (refine AWP.ret ?_;(repeat (first | refine inB_r ?_ | refine andThen_r ?_));refine retQ_r ?_)
  refine Ends.plain rfl rfl (by exact Sub.f) ⟨?_,rfl⟩
  have hb:8 < k.fields.length:=by rw [decide_eq_true_eq,List.length_map] at hb;omega
  rw [show oneErr k = 2 from by simp [oneErr,hn,hb]]
 have hl:k.fields.length ≤ 8:=by rw [decide_eq_false_iff_not,List.length_map] at hb;omega
 have e1:oneErr k = fieldsErr [] k.fields:=by simp [oneErr,hn];omega
 (repeat (first | refine AWP.loopR (fun i:Nat=>⟨[(1,.ptr X1 0 0),(17,fieldsA false k.fields),(18,iA (k.fields.map fieldA).length),(19,iA i)],(X1,.row 83 2 [kindA false k]) :: Sf⟩) (fun i=>i ≤ k.fields.length ∧ fieldsErr [] k.fields = fieldsErr (k.fields.take i) (k.fields.drop i)) (fun i=>k.fields.length - i) 0 ⟨by omega,rfl⟩ ⟨.cons rfl (.cons rfl (.cons rfl (.cons rfl .nil))),by exact Sub.f⟩ ?_ | refine WK ?_ | refine All.i fun X=>?_ | refine AllY.i fun Y=>?_))
 rintro i ⟨hi,he⟩
 (repeat (first | refine WK ?_ | refine All.i fun X=>?_ | refine AllY.i fun Y=>?_))
 refine AWP.cond rfl (fun hb=>?_) (fun hb=>?_)
 ·have h:i < k.fields.length:=by simpa using hb
  (repeat (first | (refine AOps.gN ?_;first | refine AOps.p (W.idxL rfl rfl rfl (map_at _ h)) rfl ?_ | refine AOps.p (W.call1 rfl (field_ps _) rfl) rfl ?_) | refine WK ?_ | refine All.i fun X=>?_ | refine AllY.i fun Y=>?_))
  refine AWP.cond rfl (fun hc=>?_) (fun hc=>?_)
  ·have hc:fieldErr k.fields[i] ≠ 0:=by simpa using hc
   (repeat (first | refine WK ?_ | refine All.i fun X=>?_ | refine AllY.i fun Y=>?_))
   (refine AWP.ret ?_;(repeat (first | refine inB_r ?_ | refine andThen_r ?_));refine retQ_r ?_)
   refine Ends.plain rfl rfl (by exact Sub.f) ⟨?_,rfl⟩
   rw [e1,he,fieldsErr_at h,fieldsErr_bad hc]
   rfl
  have hc:fieldErr k.fields[i] = 0:=by simpa using hc
  have hmt:((k.fields.map fieldA).take i).length = i:=by simp;omega
  (repeat (first | (refine AOps.gN ?_;first | refine AOps.p (W.hiL rfl rfl rfl (by simp;omega)) rfl ?_) | refine AWP.loopR (fun j:Nat=>⟨[(1,.ptr X1 0 0),(17,fieldsA false k.fields),(18,iA (k.fields.map fieldA).length),(19,iA i),(3,iA i),(4,.ptr X 0 0),(32,.lst false 85 3 ((k.fields.map fieldA).take i)),(33,iA ((k.fields.map fieldA).take i).length),(34,iA j)],(X,.row 85 3 [fieldA k.fields[i]]) :: (X1,.row 83 2 [kindA false k]) :: Sf⟩) (fun j=>j ≤ i ∧ ∀ q (hq:q < k.fields.length),q < j → k.fields[q].name ≠ k.fields[i].name) (fun j=>i - j) 0 ⟨by omega,by omega⟩ ⟨.cons rfl (.cons rfl (.cons rfl (.cons rfl (.cons rfl (.cons rfl (.cons rfl (.cons rfl (.cons rfl .nil)))))))),by exact Sub.f⟩ ?_ | refine WK ?_ | refine All.i fun X=>?_ | refine AllY.i fun Y=>?_))
  rintro j ⟨hj,hne⟩
  (repeat (first | refine WK ?_ | refine All.i fun X=>?_ | refine AllY.i fun Y=>?_))
  refine AWP.cond rfl (fun hd=>?_) (fun hd=>?_)
  ·have hd:j < i:=by rw [hmt] at hd;simpa using hd
   have hat:((k.fields.map fieldA).take i)[j]? = some (fieldA (k.fields[j]'(by omega))):=by rw [List.getElem?_take_of_lt hd];exact map_at _ _
   (repeat (first | (refine AOps.gN ?_;first | refine AOps.p (W.idxL rfl rfl rfl hat) rfl ?_) | refine WK ?_ | refine All.i fun X=>?_ | refine AllY.i fun Y=>?_))
   refine AWP.cond rfl (fun hq=>?_) (fun hq=>?_)
   ·have hq:(k.fields[j]'(by omega)).name = k.fields[i].name:=by simpa using hq
    (repeat (first | refine WK ?_ | refine All.i fun X=>?_ | refine AllY.i fun Y=>?_))
    (refine AWP.ret ?_;(repeat (first | refine inB_r ?_ | refine andThen_r ?_));refine retQ_r ?_)
    refine Ends.plain rfl rfl (by exact Sub.f) ⟨?_,rfl⟩
    rw [e1,he,fieldsErr_at h,fieldsErr_twice hc (j:=j) (by simp;omega) (by simpa using hq)]
   ·have hq:(k.fields[j]'(by omega)).name ≠ k.fields[i].name:=by simpa using hq
    (repeat (first | refine WK ?_ | refine All.i fun X=>?_ | refine AllY.i fun Y=>?_))
    refine ⟨j + 1,⟨by omega,fun q hq1 hq2=>?_⟩,by omega,.cons rfl (.cons rfl (.cons rfl (.cons rfl (.cons rfl (.cons rfl (.cons rfl (.cons rfl (.cons rfl .nil)))))))),by exact Sub.f⟩
    by_cases e:q = j
    ·subst e;exact hq
    ·exact hne q hq1 (by omega)
  ·have hd:¬ j < i:=by rw [hmt] at hd;simpa using hd
   (repeat (first | refine WK ?_ | refine All.i fun X=>?_ | refine AllY.i fun Y=>?_))
   refine ⟨i + 1,⟨by omega,?_⟩,by omega,.cons rfl (.cons rfl (.cons rfl (.cons rfl .nil))),by exact Sub.f⟩
   rw [he,fieldsErr_at h,fieldsErr_next hc fun q hq=>?_,List.take_add_one,List.getElem?_eq_getElem h]
   ·rfl
   ·simp only [List.getElem_take]
    exact hne q (by simp at hq;omega) (by simp at hq;omega)
 ·have h:¬ i < k.fields.length:=by simpa using hb
  (repeat (first | refine WK ?_ | refine All.i fun X=>?_ | refine AllY.i fun Y=>?_))
  (refine AWP.ret ?_;(repeat (first | refine inB_r ?_ | refine andThen_r ?_));refine retQ_r ?_)
  refine Ends.plain rfl rfl (by exact Sub.f) ⟨?_,rfl⟩
  rw [e1,he,fieldsErr_end (by omega)]
theorem oneErr_len {k:Kind} (h:oneErr k = 0):k.fields.length ≤ 8:=by
 unfold oneErr at h
 split at h
 ·split at h
  ·cases h
  ·omega
 ·cases h
def fitL (k:Kind) (vals:List Int) (i:Nat):List Int:=(List.zipWith nearOf k.fields vals).take i ++ List.replicate (vals.length - i) 0
theorem fitL_at {k:Kind} {vals:List Int} {i:Nat} (hl:vals.length = k.fields.length) (h:i < vals.length):((fitL k vals i).map iA)[i]? = some (iA 0):=by
 have hz:(List.zipWith nearOf k.fields vals).length = vals.length:=by simp;omega
 rw [List.getElem?_map,fitL,List.getElem?_append_right (by simp;omega)]
 rw [List.length_take,Nat.min_eq_left (by omega),Nat.sub_self,List.getElem?_replicate,if_pos (by omega)]
 rfl
theorem fitL_set {k:Kind} {vals:List Int} {i:Nat} (hl:vals.length = k.fields.length) (h:i < vals.length):((fitL k vals i).map iA).set i (iA (nearOf (k.fields[i]'(by omega)) vals[i])) = (fitL k vals (i + 1)).map iA:=by
 have hz:(List.zipWith nearOf k.fields vals).length = vals.length:=by simp;omega
 rw [← List.map_set]
 congr 1
 unfold fitL
 rw [List.set_append_right _ _ (by simp;omega),List.length_take,Nat.min_eq_left (by omega),Nat.sub_self]
 rw [show vals.length - i = (vals.length - (i + 1)) + 1 from by omega,List.replicate_succ,List.set_cons_zero]
 rw [List.take_add_one,List.getElem?_eq_getElem (by omega),List.append_assoc]
 simp
theorem fit_ps (k:Kind) (vals:List Int):PS Tryz.prog 75 [kindA false k,intsA false vals] (.tup [intsA true (fitOf k vals).1,iA (fitOf k vals).2]):=by
 refine Spec.of (nt:=43) (res:=[.tmp 4,.tmp 5]) Tryz.func75 rfl (by kernel_rfl) rfl rfl rfl fun Sf=>?_
 (repeat (first | (refine AOps.gN ?_;first | refine AOps.p (W.call1 rfl (one_ps _) rfl) rfl ?_ | (refine AOps.rs fun B=>?_;refine AOps.s (W.box rfl .here rfl) rfl ?_)) | refine WK ?_ | refine All.i fun X=>?_ | refine AllY.i fun Y=>?_))
 refine AWP.cond rfl (fun hb=>?_) (fun hb=>?_)
 ·have hb:oneErr k ≠ 0:=by simpa using hb
  (repeat (first | refine WK ?_ | refine All.i fun X=>?_ | refine AllY.i fun Y=>?_))
  (refine AWP.ret ?_;(repeat (first | refine inB_r ?_ | refine andThen_r ?_));refine retQ_r ?_)
  rw [show fitOf k vals = ([],oneErr k) from by simp [fitOf,hb]]
  exact ⟨[.prim (.slice none 0 0),iA (oneErr k)],[intsA true [],iA (oneErr k)],_,[],.cons (.tmp rfl) rfl (.cons (.tmp rfl) rfl .nil),.cons (.cell .nil) (.cons (.cell .same) .nil),by exact Sub.f,rfl,rfl⟩
 have hk:oneErr k = 0:=by simpa using hb
 have h8:=oneErr_len hk
 (repeat (first | refine WK ?_ | refine All.i fun X=>?_ | refine AllY.i fun Y=>?_))
 refine AWP.cond rfl (fun hb=>?_) (fun hb=>?_)
 ·have hb:vals.length ≠ k.fields.length:=by rw [decide_eq_true_eq,List.length_map,List.length_map] at hb;omega
  (repeat (first | refine WK ?_ | refine All.i fun X=>?_ | refine AllY.i fun Y=>?_))
  (refine AWP.ret ?_;(repeat (first | refine inB_r ?_ | refine andThen_r ?_));refine retQ_r ?_)
  rw [show fitOf k vals = ([],1) from by simp [fitOf,hk,hb]]
  exact ⟨[.prim (.slice none 0 0),iA 1],[intsA true [],iA 1],_,[],.cons (.tmp rfl) rfl (.cons (.tmp rfl) rfl .nil),.cons (.cell .nil) (.cons (.cell .same) .nil),by exact Sub.f,rfl,rfl⟩
 have hl:vals.length = k.fields.length:=by rw [decide_eq_false_iff_not,List.length_map,List.length_map] at hb;omega
 have hv:(vals.map iA).length ≤ 8:=by simp;omega
 have hz:List.replicate (vals.map iA).length (zAV [.int .i64 0] false) = (fitL k vals 0).map iA:=by simp [fitL];exact .inr rfl
 (repeat (first | (refine AOps.gN ?_;first | (refine AOps.rs fun XL=>?_;refine AOps.s (W.make rfl rfl .here rfl (.inr rfl) rfl rfl (Nat.le_refl _) (by omega) (Nat.le_trans hv (by decide))) rfl ?_)) | refine AWP.loopR (fun i:Nat=>⟨[(1,intsA false vals),(7,.sl XL 0 (vals.map iA).length),(25,fieldsA false k.fields),(26,iA (k.fields.map fieldA).length),(27,iA i)],(XL,.row 3 1 ((fitL k vals i).map iA)) :: (B,.row 83 2 [kindA false k]) :: Sf⟩) (fun i=>i ≤ vals.length) (fun i=>vals.length - i) 0 (Nat.zero_le _) ⟨.cons rfl (.cons rfl (.cons rfl (.cons rfl (.cons rfl .nil)))),(by show List.Sublist ((XL,.row 3 1 ((fitL k vals 0).map iA)) :: (B,.row 83 2 [kindA false k]) :: Sf) _;rw [← hz];exact Sub.f)⟩ ?_ | refine WK ?_ | refine All.i fun X=>?_ | refine AllY.i fun Y=>?_))
 rintro i hi
 (repeat (first | refine WK ?_ | refine All.i fun X=>?_ | refine AllY.i fun Y=>?_))
 refine AWP.cond rfl (fun hb=>?_) (fun hb=>?_)
 ·have h:i < vals.length:=by rw [decide_eq_true_eq,List.length_map] at hb;omega
  have h':i < k.fields.length:=by omega
  (repeat (first | (refine AOps.gN ?_;first | refine AOps.p (W.idxL rfl rfl rfl (map_at _ h')) rfl ?_) | refine WK ?_ | refine All.i fun X=>?_ | refine AllY.i fun Y=>?_))
  (repeat refine WF ?_);refine AWP.region_run (by kernel_rfl) (by kernel_rfl) ?_;(repeat (first | (refine RGo.gN ?_;first | refine RGo.p (W.idxL rfl rfl rfl (map_at _ h)) rfl ?_ | refine RGo.p (W.call2 rfl rfl (near_ps _ _) rfl) rfl ?_ | refine RGo.p (W.idx rfl rfl (by exact At.f) rfl (by simpa using h) (Nat.zero_add _)) rfl ?_ | refine RGo.s (W.store rfl rfl (by exact At.f) (fitL_at hl h) (by exact rfl)) rfl ?_) | (refine RGo.gQ ?_;first | refine RGo.p (W.idxL rfl rfl rfl (map_at _ h)) rfl ?_ | refine RGo.p (W.call2 rfl rfl (near_ps _ _) rfl) rfl ?_ | refine RGo.p (W.idx rfl rfl (by exact At.f) rfl (by simpa using h) (Nat.zero_add _)) rfl ?_ | refine RGo.s (W.store rfl rfl (by exact At.f) (fitL_at hl h) (by exact rfl)) rfl ?_) | refine RK ?_ | refine RGo.nil (by kernel_rfl) ?_))
  (repeat (first | refine WK ?_ | refine All.i fun X=>?_ | refine AllY.i fun Y=>?_))
  refine ⟨i + 1,by omega,by omega,.cons rfl (.cons rfl (.cons rfl (.cons rfl (.cons rfl .nil)))),?_⟩
  show List.Sublist ((XL,.row 3 1 ((fitL k vals (i + 1)).map iA)) :: (B,.row 83 2 [kindA false k]) :: Sf) _
  rw [← fitL_set hl h]
  exact Sub.f
 ·have h:¬ i < vals.length:=by rw [decide_eq_false_iff_not,List.length_map] at hb;omega
  (repeat (first | refine WK ?_ | refine All.i fun X=>?_ | refine AllY.i fun Y=>?_))
  (refine AWP.ret ?_;(repeat (first | refine inB_r ?_ | refine andThen_r ?_));refine retQ_r ?_)
  rw [show fitOf k vals = (List.zipWith nearOf k.fields vals,0) from by simp [fitOf,hk,hl]]
  have he:(fitL k vals i).map iA = (List.zipWith nearOf k.fields vals).map iA:=by
   congr 1
   rw [fitL,show vals.length - i = 0 from by omega,List.take_of_length_le (by simp;omega)]
   simp
  refine ⟨[.sl XL 0 (vals.map iA).length,iA 0],[.lst true 3 1 ((fitL k vals i).map iA),iA 0],_,[],.cons (.tmp rfl) rfl (.cons (.tmp rfl) rfl .nil),.cons (.cell (.sl (p:=0) .here (by rw [he];simp;omega))) (.cons (.cell .same) .nil),by exact Sub.f,?_,rfl⟩
  rw [he]
  rfl
theorem fitOf_len8 {k:Kind} {vals:List Int} (h:(fitOf k vals).2 = 0):(fitOf k vals).1.length = vals.length ∧ vals.length ≤ 8:=by
 unfold fitOf at h ⊢
 split
 ·rename_i h1;rw [if_pos h1] at h;exact absurd h h1
 ·rename_i h1
  rw [if_neg h1] at h
  split
  ·rename_i h2;rw [if_pos h2] at h;cases h
  ·rename_i h2;have:=oneErr_len (Decidable.not_not.1 h1);simp;omega
theorem holds_ps (k:Kind) (vals:List Int):PS Tryz.prog 112 [kindA false k,intsA false vals] (bA (holdsOf k vals)):=by
 refine Spec.of (nt:=31) (res:=[.tmp 4]) Tryz.func112 rfl (by kernel_rfl) rfl rfl rfl fun Sf=>?_
 have hfr:(AV.tup [intsA true (fitOf k vals).1,iA (fitOf k vals).2]).frz = .tup [intsA false (fitOf k vals).1,iA (fitOf k vals).2]:=by
  show AV.tup [(intsA true (fitOf k vals).1).frz,_] = _
  rw [intsA_frz]
  rfl
 (repeat (first | (refine AOps.gN ?_;first | refine AOps.p (W.callF2 rfl rfl (fit_ps _ _) rfl hfr) rfl ?_) | refine WK ?_ | refine All.i fun X=>?_ | refine AllY.i fun Y=>?_))
 refine AWP.cond rfl (fun hb=>?_) (fun hb=>?_)
 ·have hb:(fitOf k vals).2 ≠ 0:=by simpa using hb
  (repeat (first | refine WK ?_ | refine All.i fun X=>?_ | refine AllY.i fun Y=>?_))
  (refine AWP.ret ?_;(repeat (first | refine inB_r ?_ | refine andThen_r ?_));refine retQ_r ?_)
  refine Ends.plain rfl rfl (by exact Sub.f) ⟨?_,rfl⟩
  simp [holdsOf,hb]
 have hb:(fitOf k vals).2 = 0:=by simpa using hb
 obtain ⟨hlen,h8⟩:=fitOf_len8 hb
 obtain ⟨fl,hfl⟩:∃ fl,fl = (fitOf k vals).1:=⟨_,rfl⟩
 rw [← hfl] at hlen
 rw [show holdsOf k vals = decide (fl = vals) from by simp [holdsOf,hb,hfl]]
 rw [← hfl]
 clear hfr
 (repeat (first | refine AWP.loopR (fun i:Nat=>⟨[(1,intsA false vals),(5,intsA false fl),(17,iA (fl.map iA).length),(18,iA i)],Sf⟩) (fun i=>i ≤ vals.length ∧ ∀ j (h:j < vals.length),j < i → fl[j]'(by omega) = vals[j]) (fun i=>vals.length - i) 0 ⟨Nat.zero_le _,fun j h hj=>absurd hj (by omega)⟩ ⟨.cons rfl (.cons rfl (.cons rfl (.cons rfl .nil))),by exact Sub.f⟩ ?_ | refine WK ?_ | refine All.i fun X=>?_ | refine AllY.i fun Y=>?_))
 rintro i ⟨hi,he⟩
 (repeat (first | refine WK ?_ | refine All.i fun X=>?_ | refine AllY.i fun Y=>?_))
 refine AWP.cond rfl (fun hc=>?_) (fun hc=>?_)
 ·have h:i < fl.length:=by rw [decide_eq_true_eq,List.length_map] at hc;omega
  have h':i < vals.length:=by omega
  (repeat (first | refine WK ?_ | refine All.i fun X=>?_ | refine AllY.i fun Y=>?_))
  (repeat refine WF ?_);refine AWP.region_run (by kernel_rfl) (by kernel_rfl) ?_;(repeat (first | (refine RGo.gN ?_;first | refine RGo.p (W.idxL rfl rfl rfl (map_at _ h)) rfl ?_ | refine RGo.p (W.idxL rfl rfl rfl (map_at _ h')) rfl ?_) | (refine RGo.gQ ?_;first | refine RGo.p (W.idxL rfl rfl rfl (map_at _ h)) rfl ?_ | refine RGo.p (W.idxL rfl rfl rfl (map_at _ h')) rfl ?_) | refine RK ?_ | refine RGo.nil (by kernel_rfl) ?_))
  (repeat (first | refine WK ?_ | refine All.i fun X=>?_ | refine AllY.i fun Y=>?_))
  refine AWP.cond rfl (fun hd=>?_) (fun hd=>?_)
  ·have hd:fl[i] ≠ vals[i]:=by simpa using hd
   (repeat (first | refine WK ?_ | refine All.i fun X=>?_ | refine AllY.i fun Y=>?_))
   (refine AWP.ret ?_;(repeat (first | refine inB_r ?_ | refine andThen_r ?_));refine retQ_r ?_)
   refine Ends.plain rfl rfl (by exact Sub.f) ⟨?_,rfl⟩
   rw [decide_eq_false (fun e=>hd (by subst e;rfl))]
  ·have hd:fl[i] = vals[i]:=by simpa using hd
   (repeat (first | refine WK ?_ | refine All.i fun X=>?_ | refine AllY.i fun Y=>?_))
   refine ⟨i + 1,⟨by omega,fun j h1 h2=>?_⟩,by omega,.cons rfl (.cons rfl (.cons rfl (.cons rfl .nil))),by exact Sub.f⟩
   by_cases e:j = i
   ·subst e;exact hd
   ·exact he j h1 (by omega)
 ·have h:¬ i < fl.length:=by rw [decide_eq_false_iff_not,List.length_map] at hc;omega
  (repeat (first | refine WK ?_ | refine All.i fun X=>?_ | refine AllY.i fun Y=>?_))
  (refine AWP.ret ?_;(repeat (first | refine inB_r ?_ | refine andThen_r ?_));refine retQ_r ?_)
  refine Ends.plain rfl rfl (by exact Sub.f) ⟨?_,rfl⟩
  rw [decide_eq_true (List.ext_getElem hlen fun j h1 h2=>he j h2 (by omega))]
theorem find_ps (l:List Kind) (name:List UInt8) (hl:l.length ≤ 1099511627776):PS Tryz.prog 111 [kindsA false false l,sA name] (iA (findKind l name)):=by
 refine Spec.of (nt:=20) (res:=[.tmp 4]) Tryz.func111 rfl (by kernel_rfl) rfl rfl rfl fun Sf=>?_
 (repeat (first | refine AWP.loopR (fun i:Nat=>⟨[(1,sA name),(7,kindsA false false l),(8,iA (l.map (kindA false)).length),(9,iA i)],Sf⟩) (fun i=>i ≤ l.length ∧ ∀ j (h:j < l.length),j < i → l[j].name ≠ name) (fun i=>l.length - i) 0 ⟨by omega,by omega⟩ ⟨.cons rfl (.cons rfl (.cons rfl (.cons rfl .nil))),List.Sublist.refl _⟩ ?_ | refine WK ?_ | refine All.i fun X=>?_ | refine AllY.i fun Y=>?_))
 rintro i ⟨hi,hn⟩
 (repeat (first | refine WK ?_ | refine All.i fun X=>?_ | refine AllY.i fun Y=>?_))
 refine AWP.cond rfl (fun hb=>?_) (fun hb=>?_)
 ·have h:i < l.length:=by simpa using hb
  (repeat (first | (refine AOps.gN ?_;first | refine AOps.p (W.idxL rfl rfl rfl (map_at _ h)) rfl ?_) | refine WK ?_ | refine All.i fun X=>?_ | refine AllY.i fun Y=>?_))
  refine AWP.cond rfl (fun hc=>?_) (fun hc=>?_)
  ·have hc:l[i].name = name:=by simpa using hc
   (repeat (first | refine WK ?_ | refine All.i fun X=>?_ | refine AllY.i fun Y=>?_))
   (refine AWP.ret ?_;(repeat (first | refine inB_r ?_ | refine andThen_r ?_));refine retQ_r ?_)
   refine Ends.plain rfl rfl (by exact Sub.f) ⟨?_,rfl⟩
   rw [findKind_some h hc fun j hj=>hn j (by omega) hj]
  ·have hc:l[i].name ≠ name:=by simpa using hc
   (repeat (first | refine WK ?_ | refine All.i fun X=>?_ | refine AllY.i fun Y=>?_))
   refine ⟨i + 1,⟨by omega,fun j hj hji=>?_⟩,by omega,.cons rfl (.cons rfl (.cons rfl (.cons rfl .nil))),by exact Sub.f⟩
   by_cases e:j = i
   ·subst e;exact hc
   ·exact hn j hj (by omega)
 ·have h:¬ i < l.length:=by simpa using hb
  (repeat (first | refine WK ?_ | refine All.i fun X=>?_ | refine AllY.i fun Y=>?_))
  (refine AWP.ret ?_;(repeat (first | refine inB_r ?_ | refine andThen_r ?_));refine retQ_r ?_)
  refine Ends.plain rfl rfl (by exact Sub.f) ⟨?_,rfl⟩
  rw [findKind_none fun j hj=>hn j hj (by omega)]
theorem check_ps (l:List Kind):PS Tryz.prog 71 [kindsA false false l] (iA (checkErr l)):=by
 refine Spec.of (nt:=29) (res:=[.tmp 2]) Tryz.func71 rfl (by kernel_rfl) rfl rfl rfl fun Sf=>?_
 (repeat (first | refine WK ?_ | refine All.i fun X=>?_ | refine AllY.i fun Y=>?_))
 refine AWP.cond rfl (fun hb=>?_) (fun hb=>?_)
 ·(repeat (first | refine WK ?_ | refine All.i fun X=>?_ | refine AllY.i fun Y=>?_))
  (refine AWP.ret ?_;(repeat (first | refine inB_r ?_ | refine andThen_r ?_));refine retQ_r ?_)
  refine Ends.plain rfl rfl (by exact Sub.f) ⟨?_,rfl⟩
  have hb:16 < l.length:=by rw [decide_eq_true_eq,List.length_map] at hb;omega
  rw [show checkErr l = 2 from by simp [checkErr,hb]]
 have hl:l.length ≤ 16:=by rw [decide_eq_false_iff_not,List.length_map] at hb;omega
 have e1:checkErr l = kindsErr [] l:=by simp [checkErr];omega
 (repeat (first | refine AWP.loopR (fun i:Nat=>⟨[(0,kindsA false false l),(9,kindsA false false l),(10,iA (l.map (kindA false)).length),(11,iA i)],Sf⟩) (fun i=>i ≤ l.length ∧ kindsErr [] l = kindsErr (l.take i) (l.drop i)) (fun i=>l.length - i) 0 ⟨by omega,rfl⟩ ⟨.cons rfl (.cons rfl (.cons rfl (.cons rfl .nil))),by exact Sub.f⟩ ?_ | refine WK ?_ | refine All.i fun X=>?_ | refine AllY.i fun Y=>?_))
 rintro i ⟨hi,he⟩
 (repeat (first | refine WK ?_ | refine All.i fun X=>?_ | refine AllY.i fun Y=>?_))
 refine AWP.cond rfl (fun hb=>?_) (fun hb=>?_)
 ·have h:i < l.length:=by simpa using hb
  (repeat (first | (refine AOps.gN ?_;first | refine AOps.p (W.idxL rfl rfl rfl (map_at _ h)) rfl ?_ | refine AOps.p (W.call1 rfl (one_ps _) rfl) rfl ?_) | refine WK ?_ | refine All.i fun X=>?_ | refine AllY.i fun Y=>?_))
  refine AWP.cond rfl (fun hc=>?_) (fun hc=>?_)
  ·have hc:oneErr l[i] ≠ 0:=by simpa using hc
   (repeat (first | refine WK ?_ | refine All.i fun X=>?_ | refine AllY.i fun Y=>?_))
   (refine AWP.ret ?_;(repeat (first | refine inB_r ?_ | refine andThen_r ?_));refine retQ_r ?_)
   refine Ends.plain rfl rfl (by exact Sub.f) ⟨?_,rfl⟩
   rw [e1,he,kindsErr_at h,kindsErr_bad hc]
   rfl
  have hc:oneErr l[i] = 0:=by simpa using hc
  have hf:PS Tryz.prog 111 [.lst false 83 2 ((l.map (kindA false)).take i),sA l[i].name] (iA (findKind (l.take i) l[i].name)):=by
   have:=find_ps (l.take i) l[i].name (by simp;omega)
   simpa only [kindsA,List.map_take] using this
  (repeat (first | refine WK ?_ | refine All.i fun X=>?_ | refine AllY.i fun Y=>?_))
  (repeat refine WF ?_);refine AWP.region_run (by kernel_rfl) (by kernel_rfl) ?_;(repeat (first | (refine RGo.gN ?_;first | refine RGo.p (W.hiL rfl rfl rfl (by simp;omega)) rfl ?_ | refine RGo.p (W.call2 rfl rfl hf rfl) rfl ?_) | (refine RGo.gQ ?_;first | refine RGo.p (W.hiL rfl rfl rfl (by simp;omega)) rfl ?_ | refine RGo.p (W.call2 rfl rfl hf rfl) rfl ?_) | refine RK ?_ | refine RGo.nil (by kernel_rfl) ?_))
  (repeat (first | refine WK ?_ | refine All.i fun X=>?_ | refine AllY.i fun Y=>?_))
  refine AWP.cond rfl (fun hd=>?_) (fun hd=>?_)
  ·have hd:0 ≤ findKind (l.take i) l[i].name:=by simpa using hd
   (repeat (first | refine WK ?_ | refine All.i fun X=>?_ | refine AllY.i fun Y=>?_))
   (refine AWP.ret ?_;(repeat (first | refine inB_r ?_ | refine andThen_r ?_));refine retQ_r ?_)
   refine Ends.plain rfl rfl (by exact Sub.f) ⟨?_,rfl⟩
   rw [e1,he,kindsErr_at h,kindsErr_twice hc hd]
  ·have hd:findKind (l.take i) l[i].name < 0:=by simpa using hd
   (repeat (first | refine WK ?_ | refine All.i fun X=>?_ | refine AllY.i fun Y=>?_))
   refine ⟨i + 1,⟨by omega,?_⟩,by omega,.cons rfl (.cons rfl (.cons rfl (.cons rfl .nil))),by exact Sub.f⟩
   rw [he,kindsErr_at h,kindsErr_next hc hd,List.take_add_one,List.getElem?_eq_getElem h]
   rfl
 ·have h:¬ i < l.length:=by simpa using hb
  (repeat (first | refine WK ?_ | refine All.i fun X=>?_ | refine AllY.i fun Y=>?_))
  (refine AWP.ret ?_;(repeat (first | refine inB_r ?_ | refine andThen_r ?_));refine retQ_r ?_)
  refine Ends.plain rfl rfl (by exact Sub.f) ⟨?_,rfl⟩
  rw [e1,he,kindsErr_end (by omega)]
def heldFrom (ks:List Kind):Int → List Comp → Bool
 | _,[]=>true
 | last,c :: l=>match ks[c.kind.toNat]? with
  | some k=>decide (last < c.kind) && decide (c.kind < ks.length) && holdsOf k c.vals && heldFrom ks c.kind l
  | none=>false
def heldOf (ks:List Kind) (l:List Comp):Bool:=heldFrom ks (-1) l
theorem heldFrom_at {ks:List Kind} {l:List Comp} {i:Nat} {last:Int} {k:Kind} {c:Comp} (h:i < l.length) (hc:l[i] = c) (hk:ks[c.kind.toNat]? = some k):heldFrom ks last (l.drop i) = (decide (last < c.kind) && decide (c.kind < ks.length) && holdsOf k c.vals && heldFrom ks c.kind (l.drop (i + 1))):=by
 rw [List.drop_eq_getElem_cons h,heldFrom,hc,hk]
theorem heldFrom_no {ks:List Kind} {l:List Comp} {i:Nat} {last:Int} {c:Comp} (h:i < l.length) (hc:l[i] = c) (hn:c.kind ≤ last ∨ (ks.length:Int) ≤ c.kind):heldFrom ks last (l.drop i) = false:=by
 rw [List.drop_eq_getElem_cons h,heldFrom,hc]
 split
 ·rcases hn with hn | hn
  ·rw [decide_eq_false (by omega)];rfl
  ·rw [decide_eq_false (p:=c.kind < _) (by omega)];simp
 ·rfl
def itemsFrom (ks:List Kind) (gens:List Int):Int → List Item → Bool
 | _,[]=>true
 | last,it :: l=>match gens[it.ent.n.toNat]? with
  | some g=>decide (last < it.ent.n) && decide (it.ent.n < gens.length) && decide (it.ent.gen = g) && !decide (it.ent.gen = 1073741824) && heldOf ks it.comps && itemsFrom ks gens it.ent.n l
  | none=>false
theorem itemsFrom_at {ks:List Kind} {gens:List Int} {l:List Item} {i:Nat} {last:Int} {g:Int} {it:Item} (h:i < l.length) (hc:l[i] = it) (hk:gens[it.ent.n.toNat]? = some g):itemsFrom ks gens last (l.drop i) = (decide (last < it.ent.n) && decide (it.ent.n < gens.length) && decide (it.ent.gen = g) && !decide (it.ent.gen = 1073741824) && heldOf ks it.comps && itemsFrom ks gens it.ent.n (l.drop (i + 1))):=by
 rw [List.drop_eq_getElem_cons h,itemsFrom,hc,hk]
theorem itemsFrom_no {ks:List Kind} {gens:List Int} {l:List Item} {i:Nat} {last:Int} {it:Item} (h:i < l.length) (hc:l[i] = it) (hn:it.ent.n ≤ last ∨ (gens.length:Int) ≤ it.ent.n):itemsFrom ks gens last (l.drop i) = false:=by
 rw [List.drop_eq_getElem_cons h,itemsFrom,hc]
 split
 ·rcases hn with hn | hn
  ·rw [decide_eq_false (by omega)];rfl
  ·rw [decide_eq_false (p:=it.ent.n < _) (by omega)];simp
 ·rfl
def gensOk (l:List Int):Bool:=l.all fun g=>decide (0 ≤ g) && decide (g ≤ 1073741824)
def wdErr (w:Wd):Int :=
 if checkErr w.kinds ≠ 0 then checkErr w.kinds
 else if 256 < w.gens.length ∨ w.gens.length < w.items.length then 2
 else if gensOk w.gens = false then 3
 else if itemsFrom w.kinds w.gens (-1) w.items = false then 3 else 0
theorem held_ps (ks:List Kind) (l:List Comp) (hl:l.length ≤ 1099511627776):PS Tryz.prog 72 [kindsA false false ks,compsA false false l] (bA (heldOf ks l)):=by
 refine Spec.of (nt:=39) (res:=[.tmp 4]) Tryz.func72 rfl (by kernel_rfl) rfl rfl rfl fun Sf=>?_
 have hlm:(l.map (compA false)).length = l.length:=List.length_map _
 (repeat (first | refine WK ?_ | refine All.i fun X=>?_ | refine AllY.i fun Y=>?_))
 refine AWP.lp2 (fun (i:Nat) (last:Int)=>⟨[(0,kindsA false false ks),(5,iA last),(8,compsA false false l),(9,iA (l.map (compA false)).length),(10,iA i)],Sf⟩) (fun i last=>i ≤ l.length ∧ -1 ≤ last ∧ heldFrom ks last (l.drop i) = heldOf ks l) (fun i _=>l.length - i) 0 (-1) ⟨Nat.zero_le _,by omega,rfl⟩ ?_
 rintro i last ⟨hi,hla,he⟩
 (repeat (first | refine WK ?_ | refine All.i fun X=>?_ | refine AllY.i fun Y=>?_))
 refine AWP.cond rfl (fun hc=>?_) (fun hc=>?_)
 ·have h:i < l.length:=by rw [decide_eq_true_eq,hlm] at hc;omega
  obtain ⟨⟨ck,cv⟩,hcc⟩:∃ c,l[i] = c:=⟨_,rfl⟩
  have hat:(l.map (compA false))[i]? = some (compA false ⟨ck,cv⟩):=by rw [List.getElem?_map,List.getElem?_eq_getElem h,hcc];rfl
  (repeat (first | refine WK ?_ | refine All.i fun X=>?_ | refine AllY.i fun Y=>?_))
  rcases Bool.eq_false_or_eq_true (decide (ck ≤ last)) with g1 | g1
  ·(repeat refine WF ?_);refine AWP.region_run (by kernel_rfl) (by kernel_rfl) ?_;(repeat (first | (refine RGo.gQ ?_;first | refine RGo.goNU ?_ | refine RGo.goNV ?_) | refine RK ?_ | refine RGo.nil (by kernel_rfl) ?_))
   refine AWP.cond_t rfl (by first | rfl | assumption) ?_
   (repeat (first | refine WK ?_ | refine All.i fun X=>?_ | refine AllY.i fun Y=>?_))
   (refine AWP.ret ?_;(repeat (first | refine inB_r ?_ | refine andThen_r ?_));refine retQ_r ?_);refine Ends.ps ?_
   rw [← he,heldFrom_no h hcc (.inl (by simpa using g1))]
  ·obtain ⟨n,rfl⟩:∃ n:Nat,ck = n:=⟨ck.toNat,by rw [decide_eq_false_iff_not] at g1;omega⟩
   rcases Bool.eq_false_or_eq_true (decide (((ks.map (kindA false)).length:Int) ≤ n)) with g2 | g2
   ·(repeat refine WF ?_);refine AWP.region_run (by kernel_rfl) (by kernel_rfl) ?_;(repeat (first | (refine RGo.gQ ?_;first | refine RGo.goNU ?_ | refine RGo.goNV ?_) | refine RK ?_ | refine RGo.nil (by kernel_rfl) ?_))
    refine AWP.cond_t rfl (by first | rfl | assumption) ?_
    (repeat (first | refine WK ?_ | refine All.i fun X=>?_ | refine AllY.i fun Y=>?_))
    (refine AWP.ret ?_;(repeat (first | refine inB_r ?_ | refine andThen_r ?_));refine retQ_r ?_);refine Ends.ps ?_
    rw [← he,heldFrom_no h hcc (.inr (by rw [decide_eq_true_eq,List.length_map] at g2;exact g2))]
   ·have hkl:n < ks.length:=by rw [decide_eq_false_iff_not,List.length_map] at g2;omega
    obtain ⟨k,hk⟩:∃ k,ks[n] = k:=⟨_,rfl⟩
    have hka:ks[n]? = some k:=by rw [List.getElem?_eq_getElem hkl,hk]
    have hat2:(ks.map (kindA false))[n]? = some (kindA false k):=by rw [List.getElem?_map,hka];rfl
    have hst:=heldFrom_at (last:=last) (k:=k) h hcc hka
    dsimp only at hst
    rw [decide_eq_true (by rw [decide_eq_false_iff_not] at g1;omega),decide_eq_true (p:=(n:Int) < _) (by omega),Bool.true_and,Bool.true_and,he] at hst
    have hh:=holds_ps k cv
    obtain ⟨b,hb⟩:∃ b,holdsOf k cv = b:=⟨_,rfl⟩
    rw [hb] at hst hh
    cases b
    ·(repeat refine WF ?_);refine AWP.region_run (by kernel_rfl) (by kernel_rfl) ?_;(repeat (first | (refine RGo.gN ?_;first | (refine RGo.g_callf ?_;first | refine RGo.c2 (h:=(hh ..)) (k:=?_))) | (refine RGo.gQ ?_;first | (refine RGo.g_callf ?_;first | refine RGo.c2 (h:=(hh ..)) (k:=?_))) | refine RK ?_ | refine RGo.nil (by kernel_rfl) ?_))
     refine AWP.cond_t rfl (by first | rfl | assumption) ?_
     (repeat (first | refine WK ?_ | refine All.i fun X=>?_ | refine AllY.i fun Y=>?_))
     (refine AWP.ret ?_;(repeat (first | refine inB_r ?_ | refine andThen_r ?_));refine retQ_r ?_);refine Ends.ps ?_
     rw [hst];rfl
    ·(repeat refine WF ?_);refine AWP.region_run (by kernel_rfl) (by kernel_rfl) ?_;(repeat (first | (refine RGo.gN ?_;first | (refine RGo.g_callf ?_;first | refine RGo.c2 (h:=(hh ..)) (k:=?_))) | (refine RGo.gQ ?_;first | (refine RGo.g_callf ?_;first | refine RGo.c2 (h:=(hh ..)) (k:=?_))) | refine RK ?_ | refine RGo.nil (by kernel_rfl) ?_))
     refine AWP.cond_f rfl (by first | rfl | assumption) ?_
     (repeat (first | refine WK ?_ | refine All.i fun X=>?_ | refine AllY.i fun Y=>?_))
     refine lp_next2 (i + 1) n ⟨h,by omega,hst.symm⟩
 ·have h:i = l.length:=by rw [decide_eq_false_iff_not,hlm] at hc;omega
  subst h
  (repeat (first | refine WK ?_ | refine All.i fun X=>?_ | refine AllY.i fun Y=>?_))
  (refine AWP.ret ?_;(repeat (first | refine inB_r ?_ | refine andThen_r ?_));refine retQ_r ?_);refine Ends.ps ?_
  rw [← he,List.drop_length];rfl
set_option maxHeartbeats 2000000 in
theorem check_ps' (w:Wd) (hg:w.gens.length ≤ 1099511627776) (hi:w.items.length ≤ 1099511627776) (hc:∀ it ∈ w.items,it.comps.length ≤ 1099511627776):PS Tryz.prog 39 [wdA false w] (iA (wdErr w)):=by
 have hck:=check_ps w.kinds
 obtain ⟨ke,hke⟩:∃ ke,checkErr w.kinds = ke:=⟨_,rfl⟩
 obtain ⟨we,hwe⟩:∃ we,wdErr w = we:=⟨_,rfl⟩
 rw [hwe]
 unfold wdErr at hwe
 rw [hke] at hck hwe
 obtain ⟨ks,gens,items⟩:=w
 dsimp only at hwe hg hi hc hck hke
 refine Spec.of (nt:=94) (res:=[.tmp 2]) Tryz.func39 rfl (by kernel_rfl) rfl rfl rfl fun Sf=>?_
 have hgm:(gens.map iA).length = gens.length:=List.length_map _
 have him:(items.map (itemA false)).length = items.length:=List.length_map _
 (repeat refine WF ?_);refine AWP.region ?_;(repeat (first | (refine AOps.gN ?_;first | (refine AOps.g_box ?_;refine AOps.goB ?_)) | refine WO ?_ | refine All.i fun X=>?_ | refine AllY.i fun Y=>?_));refine AOps.nil ?_;(repeat refine WN ?_)
 (repeat refine WF ?_);refine AWP.region ?_;(repeat (first | (refine AOps.gN ?_;first | (refine AOps.g_callf ?_;first | refine AOps.c1 (h:=(hck ..)) (k:=?_))) | refine WO ?_ | refine All.i fun X=>?_ | refine AllY.i fun Y=>?_));refine AOps.nil ?_;(repeat refine WN ?_)
 (repeat (first | refine WK ?_ | refine All.i fun X=>?_ | refine AllY.i fun Y=>?_))
 refine AWP.cond rfl (fun hd=>?_) (fun hd=>?_)
 ·have hd:ke ≠ 0:=by simpa using hd
  (repeat (first | refine WK ?_ | refine All.i fun X=>?_ | refine AllY.i fun Y=>?_))
  (refine AWP.ret ?_;(repeat (first | refine inB_r ?_ | refine andThen_r ?_));refine retQ_r ?_);refine Ends.ps ?_
  rw [← hwe,if_pos hd]
 have hd:ke = 0:=by simpa using hd
 rw [if_neg (by simp [hd])] at hwe
 rcases Bool.eq_false_or_eq_true (decide (256 < ((gens.map iA).length:Int))) with g1 | g1
 ·(repeat (first | refine WK ?_ | refine All.i fun X=>?_ | refine AllY.i fun Y=>?_))
  refine AWP.cond_t rfl (by first | rfl | assumption) ?_
  (repeat (first | refine WK ?_ | refine All.i fun X=>?_ | refine AllY.i fun Y=>?_))
  (refine AWP.ret ?_;(repeat (first | refine inB_r ?_ | refine andThen_r ?_));refine retQ_r ?_);refine Ends.ps ?_
  rw [← hwe,if_pos (.inl (by rw [decide_eq_true_eq,hgm] at g1;omega))]
 rcases Bool.eq_false_or_eq_true (decide (((gens.map iA).length:Int) < (items.map (itemA false)).length)) with g2 | g2
 ·(repeat (first | refine WK ?_ | refine All.i fun X=>?_ | refine AllY.i fun Y=>?_))
  refine AWP.cond_t rfl (by first | rfl | assumption) ?_
  (repeat (first | refine WK ?_ | refine All.i fun X=>?_ | refine AllY.i fun Y=>?_))
  (refine AWP.ret ?_;(repeat (first | refine inB_r ?_ | refine andThen_r ?_));refine retQ_r ?_);refine Ends.ps ?_
  rw [← hwe,if_pos (.inr (by rw [decide_eq_true_eq,hgm,him] at g2;omega))]
 (repeat (first | refine WK ?_ | refine All.i fun X=>?_ | refine AllY.i fun Y=>?_))
 refine AWP.cond_f rfl (by first | rfl | assumption) ?_
 rw [if_neg (by rw [decide_eq_false_iff_not,hgm] at g1;rw [decide_eq_false_iff_not,hgm,him] at g2;omega)] at hwe
 (repeat (first | refine WK ?_ | refine All.i fun X=>?_ | refine AllY.i fun Y=>?_))
 refine AWP.lp (fun i:Nat=>⟨[(1,.fp (wdA false ⟨ks,gens,items⟩).cells),(29,intsA false gens),(30,iA (gens.map iA).length),(31,iA i)],Sf⟩) (fun i=>i ≤ gens.length ∧ ∀ j (h:j < gens.length),j < i → 0 ≤ gens[j] ∧ gens[j] ≤ 1073741824) (fun i=>gens.length - i) 0 ⟨Nat.zero_le _,fun j h hj=>absurd hj (by omega)⟩ ?_
 rintro i ⟨hil,hgo⟩
 (repeat (first | refine WK ?_ | refine All.i fun X=>?_ | refine AllY.i fun Y=>?_))
 refine AWP.cond rfl (fun he=>?_) (fun he=>?_)
 ·have h:i < gens.length:=by rw [decide_eq_true_eq,hgm] at he;omega
  obtain ⟨x,hx⟩:∃ x,gens[i] = x:=⟨_,rfl⟩
  have hat:(gens.map iA)[i]? = some (iA x):=by rw [List.getElem?_map,List.getElem?_eq_getElem h,hx];rfl
  have hbad:¬ (0 ≤ x ∧ x ≤ 1073741824) → gensOk gens = false:=fun hn=>by
   unfold gensOk
   rw [List.all_eq_false]
   refine ⟨x,hx ▸ List.getElem_mem h,?_⟩
   simp only [Bool.and_eq_true,decide_eq_true_eq]
   exact hn
  (repeat (first | refine WK ?_ | refine All.i fun X=>?_ | refine AllY.i fun Y=>?_))
  refine AWP.cond rfl (fun hf=>?_) (fun hf=>?_)
  ·have hf:¬ (0 ≤ x ∧ x ≤ 1073741824):=by simp at hf;omega
   (repeat (first | refine WK ?_ | refine All.i fun X=>?_ | refine AllY.i fun Y=>?_))
   (refine AWP.ret ?_;(repeat (first | refine inB_r ?_ | refine andThen_r ?_));refine retQ_r ?_);refine Ends.ps ?_
   rw [← hwe,if_pos (hbad hf)]
  ·have hf:0 ≤ x ∧ x ≤ 1073741824:=by simp at hf;omega
   (repeat (first | refine WK ?_ | refine All.i fun X=>?_ | refine AllY.i fun Y=>?_))
   refine lp_next (i + 1) ⟨h,fun j h1 h2=>?_⟩
   by_cases e:j = i
   ·subst e;rw [hx];exact hf
   ·exact hgo j h1 (by omega)
 have hgok:gensOk gens = true:=by
  have h:i = gens.length:=by rw [decide_eq_false_iff_not,hgm] at he;omega
  unfold gensOk
  rw [List.all_eq_true]
  intro x hx
  obtain ⟨j,hj,rfl⟩:=List.getElem_of_mem hx
  simp only [Bool.and_eq_true,decide_eq_true_eq]
  exact hgo j hj (by omega)
 rw [if_neg (by simp [hgok])] at hwe
 (repeat (first | refine WK ?_ | refine All.i fun X=>?_ | refine AllY.i fun Y=>?_))
 refine AWP.lp2 (fun (i:Nat) (last:Int)=>⟨[(1,.fp (wdA false ⟨ks,gens,items⟩).cells),(6,iA last),(43,itemsA false false items),(44,iA (items.map (itemA false)).length),(45,iA i)],Sf⟩) (fun i last=>i ≤ items.length ∧ -1 ≤ last ∧ itemsFrom ks gens last (items.drop i) = itemsFrom ks gens (-1) items) (fun i _=>items.length - i) 0 (-1) ⟨Nat.zero_le _,by omega,rfl⟩ ?_
 clear hil hgo he i
 rintro i last ⟨hil,hla,he⟩
 (repeat (first | refine WK ?_ | refine All.i fun X=>?_ | refine AllY.i fun Y=>?_))
 refine AWP.cond rfl (fun hd'=>?_) (fun hd'=>?_)
 ·have h:i < items.length:=by rw [decide_eq_true_eq,him] at hd';omega
  obtain ⟨⟨⟨en,eg⟩,cs⟩,hit⟩:∃ it,items[i] = it:=⟨_,rfl⟩
  have hat:(items.map (itemA false))[i]? = some (itemA false ⟨⟨en,eg⟩,cs⟩):=by rw [List.getElem?_map,List.getElem?_eq_getElem h,hit];rfl
  have hcl:=hc _ (hit ▸ List.getElem_mem h)
  dsimp only at hcl
  (repeat (first | refine WK ?_ | refine All.i fun X=>?_ | refine AllY.i fun Y=>?_))
  rcases Bool.eq_false_or_eq_true (decide (en ≤ last)) with q1 | q1
  ·(repeat refine WF ?_);refine AWP.region_run (by kernel_rfl) (by kernel_rfl) ?_;(repeat (first | (refine RGo.gQ ?_;first | refine RGo.goNU ?_ | refine RGo.goNV ?_) | refine RK ?_ | refine RGo.nil (by kernel_rfl) ?_))
   refine AWP.cond_t rfl (by first | rfl | assumption) ?_
   (repeat (first | refine WK ?_ | refine All.i fun X=>?_ | refine AllY.i fun Y=>?_))
   (refine AWP.ret ?_;(repeat (first | refine inB_r ?_ | refine andThen_r ?_));refine retQ_r ?_);refine Ends.ps ?_
   rw [← hwe,if_pos (by rw [← he,itemsFrom_no h hit (.inl (by simpa using q1))])]
  obtain ⟨n,rfl⟩:∃ n:Nat,en = n:=⟨en.toNat,by rw [decide_eq_false_iff_not] at q1;omega⟩
  rcases Bool.eq_false_or_eq_true (decide (((gens.map iA).length:Int) ≤ n)) with q2 | q2
  ·(repeat refine WF ?_);refine AWP.region_run (by kernel_rfl) (by kernel_rfl) ?_;(repeat (first | (refine RGo.gQ ?_;first | refine RGo.goNU ?_ | refine RGo.goNV ?_) | refine RK ?_ | refine RGo.nil (by kernel_rfl) ?_))
   refine AWP.cond_t rfl (by first | rfl | assumption) ?_
   (repeat (first | refine WK ?_ | refine All.i fun X=>?_ | refine AllY.i fun Y=>?_))
   (refine AWP.ret ?_;(repeat (first | refine inB_r ?_ | refine andThen_r ?_));refine retQ_r ?_);refine Ends.ps ?_
   rw [← hwe,if_pos (by rw [← he,itemsFrom_no h hit (.inr (by rw [decide_eq_true_eq,hgm] at q2;exact q2))])]
  have hkl:n < gens.length:=by rw [decide_eq_false_iff_not,hgm] at q2;omega
  obtain ⟨g,hg'⟩:∃ g,gens[n] = g:=⟨_,rfl⟩
  have hga:gens[n]? = some g:=by rw [List.getElem?_eq_getElem hkl,hg']
  have hat2:(gens.map iA)[n]? = some (iA g):=by rw [List.getElem?_map,hga];rfl
  have hst:=itemsFrom_at (ks:=ks) (last:=last) (g:=g) h hit hga
  dsimp only at hst
  rw [decide_eq_true (by rw [decide_eq_false_iff_not] at q1;omega),decide_eq_true (p:=(n:Int) < _) (by omega),Bool.true_and,Bool.true_and,he] at hst
  rcases Bool.eq_false_or_eq_true (decide (eg ≠ g)) with q3 | q3
  ·(repeat refine WF ?_);refine AWP.region_run (by kernel_rfl) (by kernel_rfl) ?_;(repeat (first | (refine RGo.gQ ?_;first | refine RGo.goNU ?_ | refine RGo.goNV ?_) | refine RK ?_ | refine RGo.nil (by kernel_rfl) ?_))
   refine AWP.cond_t rfl (by first | rfl | assumption) ?_
   (repeat (first | refine WK ?_ | refine All.i fun X=>?_ | refine AllY.i fun Y=>?_))
   (refine AWP.ret ?_;(repeat (first | refine inB_r ?_ | refine andThen_r ?_));refine retQ_r ?_);refine Ends.ps ?_
   rw [← hwe,if_pos (by rw [hst,decide_eq_false (by simpa using q3)];rfl)]
  rcases Bool.eq_false_or_eq_true (decide (eg = 1073741824)) with q4 | q4
  ·(repeat refine WF ?_);refine AWP.region_run (by kernel_rfl) (by kernel_rfl) ?_;(repeat (first | (refine RGo.gQ ?_;first | refine RGo.goNU ?_ | refine RGo.goNV ?_) | refine RK ?_ | refine RGo.nil (by kernel_rfl) ?_))
   refine AWP.cond_t rfl (by first | rfl | assumption) ?_
   (repeat (first | refine WK ?_ | refine All.i fun X=>?_ | refine AllY.i fun Y=>?_))
   (refine AWP.ret ?_;(repeat (first | refine inB_r ?_ | refine andThen_r ?_));refine retQ_r ?_);refine Ends.ps ?_
   rw [← hwe,if_pos (by rw [hst,q4];simp)]
  have hh:=held_ps ks cs hcl
  obtain ⟨b,hb⟩:∃ b,heldOf ks cs = b:=⟨_,rfl⟩
  rw [decide_eq_true (p:=eg = g) (by simpa using q3),q4,hb,Bool.true_and,Bool.not_false,Bool.true_and] at hst
  rw [hb] at hh
  cases b
  ·(repeat refine WF ?_);refine AWP.region_run (by kernel_rfl) (by kernel_rfl) ?_;(repeat (first | (refine RGo.gN ?_;first | (refine RGo.g_callf ?_;first | refine RGo.c2 (h:=(hh ..)) (k:=?_))) | (refine RGo.gQ ?_;first | (refine RGo.g_callf ?_;first | refine RGo.c2 (h:=(hh ..)) (k:=?_))) | refine RK ?_ | refine RGo.nil (by kernel_rfl) ?_))
   refine AWP.cond_t rfl (by first | rfl | assumption) ?_
   (repeat (first | refine WK ?_ | refine All.i fun X=>?_ | refine AllY.i fun Y=>?_))
   (refine AWP.ret ?_;(repeat (first | refine inB_r ?_ | refine andThen_r ?_));refine retQ_r ?_);refine Ends.ps ?_
   rw [← hwe,if_pos (by rw [hst];rfl)]
  ·(repeat refine WF ?_);refine AWP.region_run (by kernel_rfl) (by kernel_rfl) ?_;(repeat (first | (refine RGo.gN ?_;first | (refine RGo.g_callf ?_;first | refine RGo.c2 (h:=(hh ..)) (k:=?_))) | (refine RGo.gQ ?_;first | (refine RGo.g_callf ?_;first | refine RGo.c2 (h:=(hh ..)) (k:=?_))) | refine RK ?_ | refine RGo.nil (by kernel_rfl) ?_))
   refine AWP.cond_f rfl (by first | rfl | assumption) ?_
   (repeat (first | refine WK ?_ | refine All.i fun X=>?_ | refine AllY.i fun Y=>?_))
   refine lp_next2 (i + 1) n ⟨h,by omega,hst.symm⟩
 ·have h:i = items.length:=by rw [decide_eq_false_iff_not,him] at hd';omega
  (repeat (first | refine WK ?_ | refine All.i fun X=>?_ | refine AllY.i fun Y=>?_))
  (refine AWP.ret ?_;(repeat (first | refine inB_r ?_ | refine andThen_r ?_));refine retQ_r ?_);refine Ends.ps ?_
  rw [← hwe,if_neg (by rw [← he,h,List.drop_length];simp [itemsFrom])]
def findE (l:List Item) (e:Ent):Int:=idxF l fun x=>decide (x.ent = e)
theorem cloneI_ps (l:List Int) (hl:l.length * 8 ≤ 140737488355328):PS Tryz.prog 21 [.lst false 3 1 (l.map iA)] (.lst true 3 1 (l.map iA)):=by
 refine Spec.of (nt:=8) (res:=[.tmp 2]) Tryz.func21 rfl (by kernel_rfl) rfl rfl rfl fun Sf=>?_
 (repeat (first | (refine AOps.gN ?_;first | refine AOps.isNil fun b hb=>?_) | refine WK ?_ | refine All.i fun X=>?_ | refine AllY.i fun Y=>?_))
 refine AWP.cond rfl (fun hc=>?_) (fun hc=>?_)
 ·rw [hb hc]
  (repeat (first | refine WK ?_ | refine All.i fun X=>?_ | refine AllY.i fun Y=>?_))
  (refine AWP.ret ?_;(repeat (first | refine inB_r ?_ | refine andThen_r ?_));refine retQ_r ?_)
  exact ⟨[.prim (.slice none 0 0)],[.lst true 3 1 []],_,[],.cons (.tmp rfl) rfl .nil,.cons (.cell .nil) .nil,by exact Sub.f,rfl,rfl⟩
 ·have hl':(0 + (l.map iA).length) * 8 ≤ 140737488355328:=by simpa using hl
  clear hl
  (repeat (first | (refine AOps.gN ?_;first | (refine AOps.g_lit ?_;refine AOps.goL0 fun K=>?_)) | refine WK ?_ | refine All.i fun X=>?_ | refine AllY.i fun Y=>?_))
  (refine AWP.ret ?_;(repeat (first | refine inB_r ?_ | refine andThen_r ?_));refine retQ_r ?_)
  exact ⟨[.sl Y 0 (0 + (l.map iA).length)],[.lst true 3 1 (l.map iA)],_,[],.cons (.tmp rfl) rfl .nil,.cons (.cell (.sl (p:=0) .here (by simp))) .nil,by exact Sub.f,rfl,rfl⟩
def SortC (l:List Comp):Prop:=l.Pairwise fun a b=>a.kind < b.kind
def compOf (l:List Comp) (k:Int):Option Comp:=l.find? fun c=>decide (c.kind = k)
theorem compOf_no {l:List Comp} {k:Int} (h:∀ c ∈ l,c.kind ≠ k):compOf l k = none:=by
 unfold compOf
 rw [List.find?_eq_none]
 intro c hc
 simpa using h c hc
theorem findE_none {l:List Item} {e:Ent} (h:findE l e < 0):l.find? (fun it=>decide (it.ent = e)) = none:=by
 unfold findE idxF at h
 split at h
 ·omega
 ·rename_i h2
  rw [List.findIdx?_eq_none_iff] at h2
  rw [List.find?_eq_none]
  intro x hx
  rw [h2 x hx];simp
theorem findE_some {l:List Item} {e:Ent} {n:Nat} (h:findE l e = n):∃ it,l[n]? = some it ∧ l.find? (fun it=>decide (it.ent = e)) = some it ∧ it.ent = e:=by
 unfold findE idxF at h
 split at h
 ·rename_i i h2
  have:i = n:=by omega
  subst this
  obtain ⟨hi,h3,h4⟩:=List.findIdx?_eq_some_iff_getElem.1 h2
  refine ⟨l[i],List.getElem?_eq_getElem hi,?_,by simpa using h3⟩
  rw [List.find?_eq_some_iff_getElem]
  exact ⟨h3,i,hi,rfl,fun j hj=>by simpa using h4 j hj⟩
 ·omega
def kSort (l:List Comp):List Comp:=l.mergeSort fun a b=>decide (a.kind ≤ b.kind)
def fitGo (ks:List Kind):List Comp → List Comp → List Comp → List Comp × Int
 | _,out,[]=>(out,0)
 | pre,out,c :: l =>
  if c.kind < 0 ∨ (ks.length:Int) ≤ c.kind then ([],1) else if pre.any (fun o=>decide (o.kind = c.kind)) then ([],5) else
  match ks[c.kind.toNat]? with
  | none=>([],1)
  | some k=>if (fitOf k c.vals).2 ≠ 0 then ([],(fitOf k c.vals).2) else fitGo ks (pre ++ [c]) (out ++ [⟨c.kind,(fitOf k c.vals).1⟩]) l
def wFit (ks:List Kind) (l:List Comp):List Comp × Int :=
 if checkErr ks ≠ 0 then ([],checkErr ks) else if (fitGo ks [] [] l).2 ≠ 0 then ([],(fitGo ks [] [] l).2) else (kSort (fitGo ks [] [] l).1,0)
theorem fitGo_ok {ks:List Kind}:∀ {l pre out:List Comp},(fitGo ks pre out l).2 = 0 → (∀ a ∈ out,∃ b ∈ pre,b.kind = a.kind) → out.Pairwise (fun a b=>a.kind ≠ b.kind) → (∀ a ∈ out,0 ≤ a.kind ∧ a.kind < ks.length) →
  (fitGo ks pre out l).1.Pairwise (fun a b=>a.kind ≠ b.kind) ∧ ∀ a ∈ (fitGo ks pre out l).1,0 ≤ a.kind ∧ a.kind < ks.length
 | [],pre,out,h,h1,h2,h3=>⟨h2,h3⟩
 | c :: l,pre,out,h,h1,h2,h3=>by
  rw [fitGo] at h ⊢
  split at h
  ·cases h
  ·rename_i g1
   rw [if_neg g1]
   split at h
   ·cases h
   ·rename_i g2
    rw [if_neg g2]
    split at h
    ·cases h
    ·rename_i k hk
     split at h
     ·rename_i g3;exact absurd h g3
     ·rename_i g3
      (try simp only [hk])
      rw [if_neg g3]
      refine fitGo_ok h (fun a ha=>?_) ?_ (fun a ha=>?_)
      ·rcases List.mem_append.1 ha with ha | ha
       ·obtain ⟨b,hb,e⟩:=h1 a ha
        exact ⟨b,by simp [hb],e⟩
       ·rw [List.mem_singleton.1 ha]
        exact ⟨c,by simp,rfl⟩
      ·rw [List.pairwise_append]
       refine ⟨h2,by simp,fun a ha b hb e=>?_⟩
       rw [List.mem_singleton.1 hb] at e
       obtain ⟨b2,hb2,e2⟩:=h1 a ha
       exact g2 (List.any_eq_true.2 ⟨b2,hb2,by simpa using e2.trans e⟩)
      ·rcases List.mem_append.1 ha with ha | ha
       ·exact h3 a ha
       ·rw [List.mem_singleton.1 ha];exact ⟨by dsimp only;omega,by dsimp only;omega⟩
theorem nodup_le {α:Type} (g:α → Int):∀ (n:Nat) (l:List α),l.Pairwise (fun a b=>g a ≠ g b) → (∀ a ∈ l,0 ≤ g a ∧ g a < n) → l.length ≤ n:=by
 intro n l h1 h2
 have h3:(l.map fun a=>(g a).toNat).Nodup:=by
  rw [List.Nodup,List.pairwise_map]
  refine h1.imp_of_mem fun {a b} ha hb e=>?_
  have:=h2 a ha
  have:=h2 b hb
  omega
 have h4:=List.Nodup.length_le_of_subset h3 (l₂:=List.range n) (fun x hx=>by
  obtain ⟨a,ha,rfl⟩:=List.mem_map.1 hx
  have:=h2 a ha
  exact List.mem_range.2 (by omega))
 simpa using h4
theorem kSort_perm (l:List Comp):(kSort l).Perm l:=List.mergeSort_perm _ _
theorem kSort_uniq {l u:List Comp} (hd:l.Pairwise (fun a b=>a.kind ≠ b.kind)) (hp:u.Perm l) (hs:u.Pairwise (fun a b=>a.kind ≤ b.kind)):u = kSort l:=by
 refine List.Perm.eq_of_pairwise (le:=fun a b=>a.kind ≤ b.kind) (fun a b ha hb h1 h2=>?_) hs ?_ (hp.trans (kSort_perm l).symm)
 ·have hb':b ∈ l:=(kSort_perm l).mem_iff.1 hb
  have ha':a ∈ l:=hp.mem_iff.1 ha
  obtain ⟨i,hi,rfl⟩:=List.getElem_of_mem ha'
  obtain ⟨j,hj,rfl⟩:=List.getElem_of_mem hb'
  have:=List.pairwise_iff_getElem.1 hd
  rcases Nat.lt_trichotomy i j with x | x | x
  ·exact absurd (by omega) (this i j hi hj x)
  ·subst x;rfl
  ·exact absurd (by omega) (this j i hj hi x)
 ·have:=List.pairwise_mergeSort (le:=fun a b:Comp=>decide (a.kind ≤ b.kind)) (fun a b c h1 h2=>by simp at *;omega) (fun a b=>by simp;omega) l
  exact this.imp fun h=>by simpa using h
theorem kSort_strict {l:List Comp} (hd:l.Pairwise (fun a b=>a.kind ≠ b.kind)):SortC (kSort l):=by
 have h1:(kSort l).Pairwise (fun a b=>a.kind ≤ b.kind):=by
  have:=List.pairwise_mergeSort (le:=fun a b:Comp=>decide (a.kind ≤ b.kind)) (fun a b c h1 h2=>by simp at *;omega) (fun a b=>by simp;omega) l
  exact this.imp fun h=>by simpa using h
 have h2:(kSort l).Pairwise (fun a b=>a.kind ≠ b.kind):=(kSort_perm l).symm.pairwise hd (fun h=>Ne.symm h)
 exact (h1.and h2).imp fun h=>by obtain ⟨a,b⟩:=h;omega
def compAt (l:List Comp) (k:Int):Nat:=(l.takeWhile fun c=>decide (c.kind < k)).length
def insC:List Comp → Comp → List Comp
 | [],c=>[c]
 | x :: l,c=>if x.kind < c.kind then x :: insC l c else if x.kind = c.kind then c :: l else c :: x :: l
def dropC (l:List Comp) (k:Int):List Comp:=l.filter fun c=>!decide (c.kind = k)
def setItem (w:Wd) (i:Nat) (cs:List Comp):Wd:=⟨w.kinds,w.gens,match w.items[i]? with | some it=>w.items.set i ⟨it.ent,cs⟩ | none=>w.items⟩
def putOf (w:Wd) (e:Ent) (c:Comp):Wd × Int :=
 if wdErr w ≠ 0 then (⟨[],[],[]⟩,wdErr w) else if findE w.items e < 0 then (⟨[],[],[]⟩,4) else
 if (wFit w.kinds [c]).2 ≠ 0 then (⟨[],[],[]⟩,(wFit w.kinds [c]).2) else
 match w.items[(findE w.items e).toNat]?,(wFit w.kinds [c]).1 with
 | some it,[d]=>(setItem w (findE w.items e).toNat (insC it.comps d),0)
 | _,_=>(⟨[],[],[]⟩,0)
def dropOf (w:Wd) (e:Ent) (k:Int):Wd × Int :=
 if wdErr w ≠ 0 then (⟨[],[],[]⟩,wdErr w) else if findE w.items e < 0 then (⟨[],[],[]⟩,4) else
 match w.items[(findE w.items e).toNat]? with
 | some it=>if (compOf it.comps k).isSome then (setItem w (findE w.items e).toNat (dropC it.comps k),0) else (⟨[],[],[]⟩,4)
 | none=>(⟨[],[],[]⟩,4)
def killOf (w:Wd) (e:Ent):Wd × Int :=
 if wdErr w ≠ 0 then (⟨[],[],[]⟩,wdErr w) else if findE w.items e < 0 then (⟨[],[],[]⟩,4) else
 (⟨w.kinds,w.gens.set e.n.toNat (w.gens.getD e.n.toNat 0 + 1),w.items.eraseIdx (findE w.items e).toNat⟩,0)
def growG (gens:List Int) (n:Nat):List Int:=if n = gens.length then gens ++ [0] else gens
def insI:List Item → Item → List Item
 | [],it=>[it]
 | x :: l,it=>if x.ent.n < it.ent.n then x :: insI l it else it :: x :: l
def spawnOf (w:Wd) (l:List Comp):Wd × Ent × Int :=
 if wdErr w ≠ 0 then (⟨[],[],[]⟩,⟨0,0⟩,wdErr w) else if (wFit w.kinds l).2 ≠ 0 then (⟨[],[],[]⟩,⟨0,0⟩,(wFit w.kinds l).2) else
 if (freeOf w).2 = false then (⟨[],[],[]⟩,⟨0,0⟩,6) else
 (⟨w.kinds,growG w.gens (freeOf w).1,insI w.items ⟨⟨(freeOf w).1,(growG w.gens (freeOf w).1).getD (freeOf w).1 0⟩,(wFit w.kinds l).1⟩⟩,⟨(freeOf w).1,(growG w.gens (freeOf w).1).getD (freeOf w).1 0⟩,0)
def kcpL (ks:List Kind) (i:Nat):List AV:=(ks.take i).map (kindA true) ++ List.replicate (ks.length - i) (.agg [sA [],.prim (.slice none 0 0)])
theorem kcpL_len (ks:List Kind) (i:Nat) (h:i ≤ ks.length):(kcpL ks i).length = ks.length:=by simp [kcpL];omega
theorem kcpL_at {ks:List Kind} {i:Nat} (h:i < ks.length):(kcpL ks i)[i]? = some (.agg [sA [],.prim (.slice none 0 0)]):=by
 unfold kcpL
 rw [List.getElem?_append_right (by simp;omega),List.getElem?_replicate,if_pos (by simp;omega)]
theorem kcpL_set {ks:List Kind} {i:Nat} (h:i < ks.length):(kcpL ks i).set i (kindA true ks[i]) = kcpL ks (i + 1):=by
 unfold kcpL
 rw [List.set_append_right _ _ (by simp;omega),List.length_map,List.length_take,Nat.min_eq_left (by omega),Nat.sub_self]
 rw [show ks.length - i = (ks.length - (i + 1)) + 1 from by omega,List.replicate_succ,List.set_cons_zero]
 rw [List.take_succ_eq_append_getElem h,List.map_append,List.append_assoc]
 rfl
theorem kindCopy_ps (ks:List Kind) (hl:ks.length ≤ 1099511627776) (hf:∀ k ∈ ks,k.fields.length ≤ 1099511627776):PS Tryz.prog 37 [kindsA false false ks] (kindsA true true ks):=by
 refine Spec.of (nt:=27) (res:=[.tmp 2]) Tryz.func37 rfl (by kernel_rfl) rfl rfl rfl fun Sf=>?_
 have hkm:(ks.map (kindA false)).length = ks.length:=List.length_map _
 have hz0:List.replicate (ks.map (kindA false)).length (.agg [sA [],.prim (.slice none 0 0)]) = kcpL ks 0:=by simp [kcpL]
 (repeat (first | (refine AOps.gN ?_;first | (refine AOps.g_make ?_;refine AOps.goM ((.agg [sA [],.prim (.slice none 0 0)])) fun K=>?_)) | refine WK ?_ | refine All.i fun X=>?_ | refine AllY.i fun Y=>?_))
 rw [hz0]
 refine AWP.lp2 (fun (i:Nat) (M:List AV)=>⟨[(3,.sl K 0 (ks.map (kindA false)).length),(9,kindsA false false ks),(10,iA (ks.map (kindA false)).length),(11,iA i)],(K,.row 83 2 M) :: Sf⟩) (fun i M=>i ≤ ks.length ∧ M = kcpL ks i) (fun i _=>ks.length - i) 0 _ ⟨Nat.zero_le _,rfl⟩ ?_
 rintro i M ⟨hi,hM⟩
 (repeat (first | refine WK ?_ | refine All.i fun X=>?_ | refine AllY.i fun Y=>?_))
 refine AWP.cond rfl (fun hc=>?_) (fun hc=>?_)
 ·have h:i < ks.length:=by rw [decide_eq_true_eq,hkm] at hc;omega
  have hset:=kcpL_set h
  have hMat:M[i]? = some (.agg [sA [],.prim (.slice none 0 0)]):=by rw [hM];exact kcpL_at h
  have hMl:M.length = ks.length:=by rw [hM];exact kcpL_len ks i hi
  have hfl:=hf _ (List.getElem_mem h)
  obtain ⟨⟨kn,fs⟩,hk⟩:∃ k,ks[i] = k:=⟨_,rfl⟩
  rw [hk] at hset hfl
  dsimp only at hfl
  have hat:(ks.map (kindA false))[i]? = some (kindA false ⟨kn,fs⟩):=by rw [List.getElem?_map,List.getElem?_eq_getElem h,hk];rfl
  have hil:i < (ks.map (kindA false)).length:=by omega
  have hfm:(fs.map fieldA).length = fs.length:=List.length_map _
  (repeat (first | refine WK ?_ | refine All.i fun V=>?_ | refine AllY.i fun Y=>?_))
  refine AWP.rs fun Y=>?_
  (repeat refine WF ?_);refine AWP.region_run (by kernel_rfl) (by kernel_rfl) ?_;(repeat (first | (refine RGo.gN ?_;first | refine RGo.s (W.appN (by rw [hfm];omega) (by rw [hfm];unfold maxLen;omega) rfl rfl (by exact At.f)) rfl ?_) | (refine RGo.gQ ?_;first | refine RGo.s (W.appN (by rw [hfm];omega) (by rw [hfm];unfold maxLen;omega) rfl rfl (by exact At.f)) rfl ?_) | refine RK ?_ | refine RGo.nil (by kernel_rfl) ?_))
  (repeat refine WF ?_)
  have hMs:(M.set i (.agg [sA kn,.sl Y 0 (fs.map fieldA).length]))[i]? = some (.agg [sA kn,.sl Y 0 (fs.map fieldA).length]):=by rw [List.getElem?_set_self (by omega)]
  refine AWP.closeIn (X:=Y) (Y:=K) .here (.next (.next .here)) rfl rfl (Hos.at hMs (.agg (.tail (.head .here)))) ?_
  rw [List.set_set]
  (repeat (first | refine WK ?_ | refine All.i fun X=>?_ | refine AllY.i fun Y=>?_))
  refine lp_next2 (i + 1) _ ⟨h,?_⟩
  rw [hM];exact hset
 ·have h:i = ks.length:=by rw [decide_eq_false_iff_not,hkm] at hc;omega
  subst h
  have hfin:kcpL ks ks.length = ks.map (kindA true):=by simp [kcpL]
  rw [hfin] at hM
  subst hM
  (repeat (first | refine WK ?_ | refine All.i fun X=>?_ | refine AllY.i fun Y=>?_))
  (refine AWP.ret ?_;(repeat (first | refine inB_r ?_ | refine andThen_r ?_));refine retQ_r ?_)
  exact ⟨[.sl K 0 (ks.map (kindA false)).length],[kindsA true true ks],_,[],.cons (.tmp rfl) rfl .nil,.cons (.cell (.sl (p:=0) .here (by simp))) .nil,by exact Sub.f,rfl,rfl⟩
def fillTo {α:Type} (f:α → AV) (z:AV) (l:List α) (i:Nat):List AV:=(l.take i).map f ++ List.replicate (l.length - i) z
theorem fillTo_zero {α:Type} (f:α → AV) (z:AV) (l:List α):fillTo f z l 0 = List.replicate l.length z:=by simp [fillTo]
theorem fillTo_at {α:Type} (f:α → AV) (z:AV) (l:List α) {i:Nat} (h:i < l.length):(fillTo f z l i)[i]? = some z:=by
 unfold fillTo
 rw [List.getElem?_append_right (by simp;omega)]
 simp only [List.length_map,List.length_take,Nat.min_eq_left (Nat.le_of_lt h),Nat.sub_self]
 rw [List.getElem?_replicate,if_pos (by omega)]
theorem fillTo_set {α:Type} (f:α → AV) (z:AV) (l:List α) {i:Nat} (h:i < l.length):(fillTo f z l i).set i (f l[i]) = fillTo f z l (i + 1):=by
 unfold fillTo
 rw [List.set_append_right _ _ (by simp;omega),List.take_add_one,List.getElem?_eq_getElem h]
 simp only [List.length_map,List.length_take,Nat.min_eq_left (Nat.le_of_lt h),Nat.sub_self,Option.toList_some,List.map_append,List.map_cons,List.map_nil,List.append_assoc]
 congr 1
 rw [show l.length - i = (l.length - (i + 1)) + 1 from by omega,List.replicate_succ]
 rfl
theorem fillTo_all {α:Type} (f:α → AV) (z:AV) (l:List α) {i:Nat} (h:l.length ≤ i):fillTo f z l i = l.map f:=by
 unfold fillTo
 rw [List.take_of_length_le h,show l.length - i = 0 from by omega]
 simp
theorem copyComps_ps (l:List Comp) (hl:l.length ≤ 1099511627776) (hv:∀ c ∈ l,c.vals.length ≤ 1099511627776):PS Tryz.prog 38 [compsA false false l] (compsA true false l):=by
 refine Spec.of (nt:=27) (res:=[.tmp 2]) Tryz.func38 rfl (by kernel_rfl) rfl rfl rfl fun Sf=>?_
 have hl':(l.map (compA false)).length ≤ 1099511627776:=by simpa using hl
 (repeat (first | (refine AOps.gN ?_;first | (refine AOps.g_make ?_;refine AOps.goM (.agg [iA 0,.prim (.slice none 0 0)]) fun K=>?_)) | refine WK ?_ | refine All.i fun X=>?_ | refine AllY.i fun Y=>?_))
 refine AWP.lp (fun i:Nat=>⟨[(3,.sl K 0 (l.map (compA false)).length),(9,compsA false false l),(10,iA (l.map (compA false)).length),(11,iA i)],(K,.row 42 2 (fillTo (compA false) (.agg [iA 0,.prim (.slice none 0 0)]) l i)) :: Sf⟩) (fun i=>i ≤ l.length) (fun i=>l.length - i) 0 (Nat.zero_le _) ?_ ⟨by (repeat (first | exact .nil | refine .cons (by first | rfl | assumption) ?_)),by rw [fillTo_zero,← List.length_map (f:=compA false)];exact Sub.f⟩
 rintro i hi
 (repeat (first | refine WK ?_ | refine All.i fun X=>?_ | refine AllY.i fun Y=>?_))
 refine AWP.cond rfl (fun hc=>?_) (fun hc=>?_)
 ·have h:i < l.length:=by simpa using hc
  have hm:i < (l.map (compA false)).length:=by simpa using h
  have hat:=fillTo_at (compA false) (.agg [iA 0,.prim (.slice none 0 0)]) l h
  (repeat (first | refine WK ?_ | refine All.i fun X=>?_ | refine AllY.i fun Y=>?_))
  (repeat refine WF ?_);refine AWP.region_run (by kernel_rfl) (by kernel_rfl) ?_;(repeat (first | (refine RGo.gN ?_;first | (refine RGo.g_callf ?_;first | refine RGo.c1 (h:=(cloneI_ps _ (by have:=hv _ (List.getElem_mem h);omega))) (k:=?_))) | (refine RGo.gQ ?_;first | (refine RGo.g_callf ?_;first | refine RGo.c1 (h:=(cloneI_ps _ (by have:=hv _ (List.getElem_mem h);omega))) (k:=?_))) | refine RK ?_ | refine RGo.nil (by kernel_rfl) ?_))
  (repeat (first | refine WK ?_ | refine All.i fun X=>?_ | refine AllY.i fun Y=>?_))
  have hs:=fillTo_set (compA false) (.agg [iA 0,.prim (.slice none 0 0)]) l h
  refine lp_nextS (i + 1) h ?_
  dsimp only
  rw [← hs]
  exact Sub.f
 ·have h:l.length ≤ i:=by rw [decide_eq_false_iff_not,List.length_map] at hc;omega
  rw [fillTo_all _ _ _ h]
  (repeat (first | refine WK ?_ | refine All.i fun X=>?_ | refine AllY.i fun Y=>?_))
  (refine AWP.ret ?_;(repeat (first | refine inB_r ?_ | refine andThen_r ?_));refine retQ_r ?_)
  exact ⟨[.sl K 0 (l.map (compA false)).length],[.lst true 42 2 (l.map (compA false))],_,[],.cons (.tmp rfl) rfl .nil,.cons (.cell (.sl (p:=0) .here rfl)) .nil,by exact Sub.f,rfl,rfl⟩
theorem comp_free (c:Comp):FreeE (compA false c):=.agg fun x hx=>by
 simp only [List.mem_cons,List.not_mem_nil,or_false] at hx
 rcases hx with rfl | rfl
 ·exact .prim _
 ·exact fun m c bs k=>k.1
theorem comps_free (l:List Comp):FreeL (l.map (compA false)):=fun x hx=>by obtain ⟨y,_,rfl⟩:=List.mem_map.1 hx;exact comp_free y
theorem comps_wid (l:List Comp):∀ x ∈ l.map (compA false),x.width = 2:=fun x hx=>by obtain ⟨y,_,rfl⟩:=List.mem_map.1 hx;rfl
theorem cloneE_ps (l:List Ent) (hl:l.length * 16 ≤ 140737488355328):PS Tryz.prog 94 [.lst false 32 2 (l.map entA)] (.lst true 32 2 (l.map entA)):=by
 refine Spec.of (nt:=8) (res:=[.tmp 2]) Tryz.func94 rfl (by kernel_rfl) rfl rfl rfl fun Sf=>?_
 (repeat (first | (refine AOps.gN ?_;first | refine AOps.isNil fun b hb=>?_) | refine WK ?_ | refine All.i fun X=>?_ | refine AllY.i fun Y=>?_))
 refine AWP.cond rfl (fun hc=>?_) (fun hc=>?_)
 ·rw [hb hc]
  (repeat (first | refine WK ?_ | refine All.i fun X=>?_ | refine AllY.i fun Y=>?_))
  (refine AWP.ret ?_;(repeat (first | refine inB_r ?_ | refine andThen_r ?_));refine retQ_r ?_)
  exact ⟨[.prim (.slice none 0 0)],[.lst true 32 2 []],_,[],.cons (.tmp rfl) rfl .nil,.cons (.cell .nil) .nil,by exact Sub.f,rfl,rfl⟩
 ·have hl':(0 + (l.map entA).length) * 16 ≤ 140737488355328:=by simpa using hl
  clear hl
  (repeat (first | (refine AOps.gN ?_;first | (refine AOps.g_lit ?_;refine AOps.goL0 fun K=>?_)) | refine WK ?_ | refine All.i fun X=>?_ | refine AllY.i fun Y=>?_))
  (refine AWP.ret ?_;(repeat (first | refine inB_r ?_ | refine andThen_r ?_));refine retQ_r ?_)
  exact ⟨[.sl Y 0 (0 + (l.map entA).length)],[.lst true 32 2 (l.map entA)],_,[],.cons (.tmp rfl) rfl .nil,.cons (.cell (.sl (p:=0) .here (by simp))) .nil,by exact Sub.f,rfl,rfl⟩
theorem ints_lds (S:List Slot):∀ b:List Int,Lds S (b.map iA) (b.map iA)
 | []=>.nil
 | x :: b=>.cons (show Ld S (iA x) (iA x) from .frz (a:=iA x)) (ints_lds S b)
theorem ents_lds (S:List Slot):∀ b:List Ent,Lds S (b.map entA) (b.map entA)
 | []=>.nil
 | x :: b=>.cons (show Ld S (entA x) (entA x) from .frz (a:=entA x)) (ents_lds S b)
theorem cloneIs_sp (X:Nat) (l:List Int) (n:Nat) (hn:n = l.length) (hl:l.length * 8 ≤ 140737488355328):Spec Tryz.prog 21 [.sl X 0 n] [(X,.row 3 1 (l.map iA))] fun r S'=>r = .lst true 3 1 (l.map iA) ∧ S' = [(X,.row 3 1 (l.map iA))]:=by
 subst hn
 refine PS.lend (cloneI_ps l hl) (by show AV.looses _ = true;rw [looses_map (fun _=>rfl)]) (.cons (.sl .here (by simp) ?_) .nil)
 rw [List.drop_zero,List.take_of_length_le (by simp)]
 exact ints_lds _ _
theorem cloneEs_sp (X:Nat) (l:List Ent) (n:Nat) (hn:n = l.length) (hl:l.length * 16 ≤ 140737488355328):Spec Tryz.prog 94 [.sl X 0 n] [(X,.row 32 2 (l.map entA))] fun r S'=>r = .lst true 32 2 (l.map entA) ∧ S' = [(X,.row 32 2 (l.map entA))]:=by
 subst hn
 refine PS.lend (cloneE_ps l hl) (by show AV.looses _ = true;rw [looses_map (fun _=>rfl)]) (.cons (.sl .here (by simp) ?_) .nil)
 rw [List.drop_zero,List.take_of_length_le (by simp)]
 exact ents_lds _ _
abbrev entsA (l:List Ent):AV:=.lst false 32 2 (l.map entA)
theorem allE_sp (k:StK) (l:List (Int × Ent)) (hl:ColOK l):Spec Tryz.prog 53 [.ptr k.X 0 0] (stE k l) fun r S'=>r = .fn 95 [.fp [intsA false (keysC l)],.fp [entsA (l.map (·.2))]] ∧ S' = stE k l:=by
 have hlen:=hl.len
 have h1:=cloneIs_sp k.R (keysC l) l.length (by simp) (by rw [List.length_map];omega)
 have h2:=cloneEs_sp k.V (l.map (·.2)) l.length (by simp) (by rw [List.length_map];omega)
 have e1:(keysC l).map iA = l.map fun e=>iA e.1:=List.map_map
 have e2:(l.map (·.2)).map entA = l.map fun e=>entA e.2:=List.map_map
 rw [e1] at h1
 rw [e2] at h2
 refine Spec.of (nt:=16) (res:=[.tmp 2]) Tryz.func53 rfl (by kernel_rfl) rfl rfl rfl fun Sf=>?_
 (repeat refine WF ?_);refine AWP.region ?_;(repeat (first | refine WO ?_ | refine All.i fun X=>?_ | refine AllY.i fun Y=>?_));refine AOps.nil ?_;(repeat refine WN ?_)
 (repeat first | refine AOps.nil ?_ | refine WF ?_)
 refine AWP.rs fun A=>AWP.rs fun B=>?_
 (repeat refine WF ?_);refine AWP.region_run (by kernel_rfl) (by kernel_rfl) ?_;(repeat (first | (refine RGo.gN ?_;first | (refine RGo.g_callf ?_;first | refine RGo.z1 (h:=h1) (hT:=.fz) (k:=?_) | refine RGo.z1 (h:=h2) (hT:=.fz) (k:=?_))) | (refine RGo.gQ ?_;first | (refine RGo.g_callf ?_;first | refine RGo.z1 (h:=h1) (hT:=.fz) (k:=?_) | refine RGo.z1 (h:=h2) (hT:=.fz) (k:=?_))) | refine RK ?_ | refine RGo.nil (by kernel_rfl) ?_))
 (repeat first | refine AOps.nil ?_ | refine WF ?_)
 refine AWP.iceP [3] .here ?_ (by intro d hd;simp only [List.mem_singleton] at hd;subst hd;rfl)
 refine AWP.iceP [4] (.next .here) ?_ (by intro d hd;simp only [List.mem_singleton] at hd;subst hd;rfl)
 (repeat refine WF ?_);refine AWP.region ?_;(repeat (first | refine WO ?_ | refine All.i fun X=>?_ | refine AllY.i fun Y=>?_));refine AOps.nil ?_;(repeat refine WN ?_)
 have er:AV.fn 95 [.fp [intsA false (keysC l)],.fp [entsA (l.map (·.2))]] = AV.fn 95 [.fp [.lst false 3 1 (l.map fun e=>iA e.1)],.fp [.lst false 32 2 (l.map fun e=>entA e.2)]]:=by rw [intsA,entsA,e1,e2]
 rw [er]
 (refine AWP.ret ?_;(repeat (first | refine inB_r ?_ | refine andThen_r ?_));refine retQ_r ?_)
 exact Ends.sp [AV.fn 95 [.fp [.lst false 3 1 (l.map fun e=>iA e.1)],.fp [.lst false 32 2 (l.map fun e=>entA e.2)]]] (stE k l) ⟨rfl,rfl⟩
theorem allE_itr (ks:List Int) (es:List Ent) (hl:ks.length = es.length) (h0:ks.length ≤ 1099511627776):Itr Tryz.prog 95 [.fp [intsA false ks],.fp [entsA es]] ((ks.zip es).map fun q=>[iA q.1,entA q.2]):=by
 have hkm:(ks.map iA).length = ks.length:=List.length_map _
 have hem:(es.map entA).length = es.length:=List.length_map _
 refine ⟨by kernel_rfl,fun y J Jx hY Sl hJ0=>?_⟩
 refine Spec.of (nt:=22) (res:=[]) Tryz.func95 rfl (by kernel_rfl) rfl rfl rfl fun Sf=>?_
 (repeat refine WF ?_);refine AWP.region ?_;(repeat (first | refine WO ?_ | refine All.i fun X=>?_ | refine AllY.i fun Y=>?_));refine AOps.nil ?_;(repeat refine WN ?_)
 (repeat first | refine AOps.nil ?_ | refine WF ?_)
 refine AWP.lp2 (fun (i:Nat) (Sl:List Slot)=>⟨[(0,.prim y),(2,.fp [entsA es]),(6,intsA false ks),(7,iA (ks.map iA).length),(8,iA i)],Sl ++ Sf⟩) (fun i Sl=>i ≤ ks.length ∧ J i Sl) (fun i _=>ks.length - i) 0 Sl ⟨Nat.zero_le _,hJ0⟩ ?_
 rintro i Sl ⟨hi,hJ⟩
 (repeat refine WF ?_);refine AWP.region ?_;(repeat (first | refine WO ?_ | refine All.i fun X=>?_ | refine AllY.i fun Y=>?_));refine AOps.nil ?_;(repeat refine WN ?_)
 (repeat first | refine AOps.nil ?_ | refine WF ?_)
 refine AWP.cond rfl (fun hc=>?_) (fun hc=>?_)
 ·have h:i < ks.length:=by rw [decide_eq_true_eq,hkm] at hc;omega
  have he:i < es.length:=by omega
  have hat:(ks.map iA)[i]? = some (iA ks[i]):=map_at _ h
  have hil:i < (ks.map iA).length:=by omega
  have hat2:(es.map entA)[i]? = some (entA es[i]):=map_at _ he
  have hil2:i < (es.map entA).length:=by omega
  have hyi:((ks.zip es).map fun q=>[iA q.1,entA q.2])[i]? = some [iA ks[i],entA es[i]]:=by
   rw [List.getElem?_map,List.getElem?_eq_getElem (by rw [List.length_zip];omega),List.getElem_zip];rfl
  obtain ⟨k,hk⟩:∃ k,ks[i] = k:=⟨_,rfl⟩
  obtain ⟨e,hee⟩:∃ e,es[i] = e:=⟨_,rfl⟩
  rw [hk] at hat hyi
  rw [hee] at hat2 hyi
  (repeat first | refine AOps.nil ?_ | refine WF ?_)
  (repeat refine WF ?_);refine AWP.region ?_;(repeat (first | refine WO ?_ | refine All.i fun X=>?_ | refine AllY.i fun Y=>?_));refine AOps.nil ?_;(repeat refine WN ?_)
  (repeat first | refine AOps.nil ?_ | refine WF ?_)
  (repeat refine WF ?_);refine AWP.region ?_;(repeat (first | refine WO ?_ | refine All.i fun X=>?_ | refine AllY.i fun Y=>?_))
  refine AOps.yield2 (Si:=[]) hY hJ hyi (fun Sl' hk=>?_) (fun Sl' hk=>?_)
  ·(repeat (first | refine WO ?_ | refine All.i fun X=>?_ | refine AllY.i fun Y=>?_))
   refine AOps.nil ?_
   (repeat first | refine AOps.nil ?_ | refine WF ?_)
   refine AWP.cond_f rfl rfl ?_
   (repeat (first | refine WK ?_ | refine All.i fun X=>?_ | refine AllY.i fun Y=>?_))
   refine lp_next2 (i + 1) Sl' ⟨h,hk⟩
  ·(repeat (first | refine WO ?_ | refine All.i fun X=>?_ | refine AllY.i fun Y=>?_))
   refine AOps.nil ?_
   (repeat first | refine AOps.nil ?_ | refine WF ?_)
   refine AWP.cond_t rfl rfl ?_
   (repeat (first | refine WK ?_ | refine All.i fun X=>?_ | refine AllY.i fun Y=>?_))
   (refine AWP.ret ?_;(repeat (first | refine inB_r ?_ | refine andThen_r ?_));refine retQ_r ?_)
   exact Ends.void Sl' (.inr hk)
 ·have h:i = ks.length:=by rw [decide_eq_false_iff_not,hkm] at hc;omega
  subst h
  (repeat (first | refine WK ?_ | refine All.i fun X=>?_ | refine AllY.i fun Y=>?_))
  refine retQ_n ?_
  exact Ends.void Sl (.inl (by rw [List.length_map,List.length_zip,← hl,Nat.min_self];exact hJ))
theorem genFields_len (i c:Nat) (l:List Int):(genFields i c l).1.length = c:=by
 induction c generalizing i l with
 | zero=>rfl
 | succ c ih=>simp [genFields,ih]
theorem genFields_names (i c:Nat) (l:List Int):(genFields i c l).1.map (·.name) = (List.range' i c).map fieldName:=by
 induction c generalizing i l with
 | zero=>rfl
 | succ c ih =>
  have:(genField i l).1.name = fieldName i:=by unfold genField;split <;> rfl
  simp [genFields,ih,List.range'_succ,this]
theorem genKindsFrom_len (k c:Nat) (l:List Int):(genKindsFrom k c l).1.length = c:=by
 induction c generalizing k l with
 | zero=>rfl
 | succ c ih=>simp [genKindsFrom,ih]
theorem genKindsFrom_names (k c:Nat) (l:List Int):(genKindsFrom k c l).1.map (·.name) = (List.range' k c).map kindName:=by
 induction c generalizing k l with
 | zero=>rfl
 | succ c ih=>simp [genKindsFrom,ih,List.range'_succ,genKind]
theorem fieldName_ok (i:Nat):nameOk (fieldName i) = true:=by
 unfold fieldName
 split <;> decide
theorem kindName_ok (i:Nat):nameOk (kindName i) = true:=by
 unfold kindName
 split <;> decide
theorem genField_ok (i:Nat) (l:List Int):fieldErr (genField i l).1 = 0:=by
 have h1:=nextV_range l (n:=9) (by omega)
 have h2:=nextV_range (nextL l 9) (n:=40) (by omega)
 unfold genField
 split
 ·simp [fieldErr,fieldName_ok]
 ·simp [fieldErr,fieldName_ok]
  omega
theorem genFields_ok (i c:Nat) (l:List Int):∀ f ∈ (genFields i c l).1,fieldErr f = 0:=by
 induction c generalizing i l with
 | zero=>intro f h;simp [genFields] at h
 | succ c ih =>
  intro f h
  simp only [genFields,List.mem_cons] at h
  rcases h with rfl | h
  ·exact genField_ok i l
  ·exact ih _ _ f h
theorem fieldsErr_nil0:∀ (fs pre:List Field),(∀ f ∈ fs,fieldErr f = 0) → ((pre ++ fs).map (·.name)).Nodup → fieldsErr pre fs = 0:=by
 intro fs
 induction fs with
 | nil=>intro pre _ _;rfl
 | cons f fs ih =>
  intro pre h hn
  have h1:=h f (by simp)
  have h2:pre.any (fun o=>o.name == f.name) = false:=by
   rw [List.any_eq_false]
   intro o ho
   simp only [beq_iff_eq]
   intro e
   rw [List.map_append,List.nodup_append] at hn
   exact hn.2.2 o.name (List.mem_map_of_mem ho) f.name (by simp) e
  simp only [fieldsErr,h1,h2]
  simp
  exact ih _ (fun x hx=>h x (by simp [hx])) (by simpa using hn)
theorem kindsErr_zero:∀ (ks pre:List Kind),(∀ k ∈ ks,oneErr k = 0) → ((pre ++ ks).map (·.name)).Nodup → kindsErr pre ks = 0:=by
 intro fs
 induction fs with
 | nil=>intro pre _ _;rfl
 | cons f fs ih =>
  intro pre h hn
  have h1:=h f (by simp)
  have h2:pre.any (fun o=>o.name == f.name) = false:=by
   rw [List.any_eq_false]
   intro o ho
   simp only [beq_iff_eq]
   intro e
   rw [List.map_append,List.nodup_append] at hn
   exact hn.2.2 o.name (List.mem_map_of_mem ho) f.name (by simp) e
  simp only [kindsErr,h1,h2]
  simp
  exact ih _ (fun x hx=>h x (by simp [hx])) (by simpa using hn)
theorem fieldNames_nodup {c:Nat} (h:c ≤ 3):((List.range' 0 c).map fieldName).Nodup:=by
 have:c = 0 ∨ c = 1 ∨ c = 2 ∨ c = 3:=by omega
 rcases this with rfl | rfl | rfl | rfl <;> decide
theorem kindNames_nodup {c:Nat} (h:c ≤ 4):((List.range' 0 c).map kindName).Nodup:=by
 have:c = 0 ∨ c = 1 ∨ c = 2 ∨ c = 3 ∨ c = 4:=by omega
 rcases this with rfl | rfl | rfl | rfl | rfl <;> decide
theorem genKind_ok (k:Nat) (l:List Int):oneErr (genKind k l).1 = 0:=by
 have h1:=nextV_range l (n:=3) (by omega)
 have h2:(1 + nextV l 3).toNat ≤ 3:=by omega
 have h3:=fieldsErr_nil0 (genFields 0 (1 + nextV l 3).toNat (nextL l 3)).1 [] (genFields_ok _ _ _) (by
  rw [List.nil_append,genFields_names]
  exact fieldNames_nodup h2)
 have h4:=genFields_len 0 (1 + nextV l 3).toNat (nextL l 3)
 unfold oneErr genKind
 simp only [kindName_ok,h3,h4,if_true]
 rw [if_neg (by omega)]
theorem genKindsFrom_ok (i c:Nat) (l:List Int):∀ f ∈ (genKindsFrom i c l).1,oneErr f = 0:=by
 induction c generalizing i l with
 | zero=>intro f h;simp [genKindsFrom] at h
 | succ c ih =>
  intro f h
  simp only [genKindsFrom,List.mem_cons] at h
  rcases h with rfl | h
  ·exact genKind_ok i l
  ·exact ih _ _ f h
theorem genKinds_len (l:List Int):1 ≤ (genKinds l).1.length ∧ (genKinds l).1.length ≤ 4:=by
 have h:=nextV_range l (n:=4) (by omega)
 unfold genKinds
 rw [genKindsFrom_len]
 omega
theorem genKinds_nodup (l:List Int):((genKinds l).1.map (·.name)).Nodup:=by
 have h:=nextV_range l (n:=4) (by omega)
 unfold genKinds
 rw [genKindsFrom_names]
 exact kindNames_nodup (by omega)
theorem genKinds_ok (l:List Int):∀ k ∈ (genKinds l).1,oneErr k = 0:=genKindsFrom_ok _ _ _
theorem genKinds_check (l:List Int):checkErr (genKinds l).1 = 0:=by
 unfold checkErr
 have:=genKinds_len l
 rw [if_neg (by omega)]
 exact kindsErr_zero _ [] (genKinds_ok l) (genKinds_nodup l)
theorem near_low {f:Field} (h:fieldErr f = 0) (v:Int):f.low ≤ nearOf f v ∧ nearOf f v ≤ highOf f:=by
 have:=highOf_bd h
 unfold nearOf
 rw [if_pos h]
 omega
theorem near_in {f:Field} (h:fieldErr f = 0) {v:Int} (h1:f.low ≤ v) (h2:v ≤ highOf f):nearOf f v = v:=by
 unfold nearOf
 rw [if_pos h]
 omega
theorem near_near {f:Field} (h:fieldErr f = 0) (v:Int):nearOf f (nearOf f v) = nearOf f v:=near_in h (near_low h v).1 (near_low h v).2
theorem near_fits {fs:List Field} (h:∀ f ∈ fs,fieldErr f = 0) (vals:List Int):List.zipWith nearOf fs (List.zipWith nearOf fs vals) = List.zipWith nearOf fs vals:=by
 induction fs generalizing vals with
 | nil=>rfl
 | cons f fs ih =>
  cases vals with
  | nil=>rfl
  | cons v vals=>simp [near_near (h f (by simp)),ih (fun x hx=>h x (by simp [hx]))]
theorem fitOf_ok {k:Kind} (h:oneErr k = 0) {vals:List Int} (hl:vals.length = k.fields.length):fitOf k vals = (List.zipWith nearOf k.fields vals,0):=by
 unfold fitOf
 rw [if_neg (by simp [h]),if_neg (by simp [hl])]
theorem genKind_fields (k:Nat) (l:List Int):(∀ f ∈ (genKind k l).1.fields,fieldErr f = 0) ∧ (genKind k l).1.fields.length ≤ 3:=by
 have h1:=nextV_range l (n:=3) (by omega)
 refine ⟨genFields_ok _ _ _,?_⟩
 show (genFields _ _ _).1.length ≤ 3
 rw [genFields_len]
 omega
theorem genKindsFrom_fields (i c:Nat) (l:List Int):∀ k ∈ (genKindsFrom i c l).1,(∀ f ∈ k.fields,fieldErr f = 0) ∧ k.fields.length ≤ 3:=by
 induction c generalizing i l with
 | zero=>intro f h;simp [genKindsFrom] at h
 | succ c ih =>
  intro f h
  simp only [genKindsFrom,List.mem_cons] at h
  rcases h with rfl | h
  ·exact genKind_fields i l
  ·exact ih _ _ f h
theorem genKinds_fields (l:List Int):∀ k ∈ (genKinds l).1,(∀ f ∈ k.fields,fieldErr f = 0) ∧ k.fields.length ≤ 3:=genKindsFrom_fields _ _ _
def vAt (fs:List Field) (l:List Int):Nat → List Int × List Int
 | 0=>([],l)
 | i + 1=>match fs[i]? with
  | some f=>((vAt fs l i).1 ++ [f.low + nextV (vAt fs l i).2 (2 ^ f.bits.toNat)],nextL (vAt fs l i).2 (2 ^ f.bits.toNat))
  | none=>vAt fs l i
def cAt (ks:List Kind) (l:List Int):Nat → List Comp × List Int
 | 0=>([],l)
 | i + 1=>match ks[i]? with
  | some k=>if nextV (cAt ks l i).2 3 = 2 then ((cAt ks l i).1,nextL (cAt ks l i).2 3)
   else ((cAt ks l i).1 ++ [⟨i,(vAt k.fields (nextL (cAt ks l i).2 3) k.fields.length).1⟩],(vAt k.fields (nextL (cAt ks l i).2 3) k.fields.length).2)
  | none=>cAt ks l i
def genComps (ks:List Kind) (l:List Int):List Comp × List Int:=cAt ks l ks.length
def wAt (ks:List Kind) (l:List Int):Nat → List Int × List Item × List Int
 | 0=>([],[],l)
 | i + 1 =>
  if nextV (nextL (wAt ks l i).2.2 3) 4 = 3 ∨ (wAt ks l i).2.1.length = 8 then ((wAt ks l i).1 ++ [nextV (wAt ks l i).2.2 3],(wAt ks l i).2.1,nextL (nextL (wAt ks l i).2.2 3) 4)
  else ((wAt ks l i).1 ++ [nextV (wAt ks l i).2.2 3],(wAt ks l i).2.1 ++ [⟨⟨i,nextV (wAt ks l i).2.2 3⟩,(genComps ks (nextL (nextL (wAt ks l i).2.2 3) 4)).1⟩],(genComps ks (nextL (nextL (wAt ks l i).2.2 3) 4)).2)
def genWorld (l:List Int):Wd :=
 ⟨(genKinds l).1,(wAt (genKinds l).1 (nextL (genKinds l).2 12) (nextV (genKinds l).2 12).toNat).1,(wAt (genKinds l).1 (nextL (genKinds l).2 12) (nextV (genKinds l).2 12).toNat).2.1⟩
def FieldOK (f:Field):Prop:=0 ≤ f.bits ∧ f.bits ≤ 32 ∧ -2147483648 ≤ f.low ∧ f.low ≤ 2147483648
def KindsOK (ks:List Kind):Prop:=ks.length ≤ 1099511627776 ∧ ∀ k ∈ ks,k.fields.length ≤ 1099511627776 ∧ ∀ f ∈ k.fields,FieldOK f
theorem vAt_len (fs:List Field) (l:List Int) (i:Nat):(vAt fs l i).1.length ≤ i:=by
 induction i with
 | zero=>simp [vAt]
 | succ i ih=>rw [vAt];split <;> (try simp only [List.length_append,List.length_singleton]) <;> omega
theorem cAt_len (ks:List Kind) (l:List Int) (i:Nat):(cAt ks l i).1.length ≤ i:=by
 induction i with
 | zero=>simp [cAt]
 | succ i ih=>rw [cAt];split <;> (try split) <;> (try simp only [List.length_append,List.length_singleton]) <;> omega
theorem vAt_next {fs:List Field} {l:List Int} {i:Nat} (h:i < fs.length):vAt fs l (i + 1) = ((vAt fs l i).1 ++ [fs[i].low + nextV (vAt fs l i).2 (2 ^ fs[i].bits.toNat)],nextL (vAt fs l i).2 (2 ^ fs[i].bits.toNat)):=by
 rw [vAt,List.getElem?_eq_getElem h]
theorem cAt_no {ks:List Kind} {l:List Int} {i:Nat} (h:i < ks.length) (h2:nextV (cAt ks l i).2 3 = 2):cAt ks l (i + 1) = ((cAt ks l i).1,nextL (cAt ks l i).2 3):=by
 rw [cAt,List.getElem?_eq_getElem h];simp only;rw [if_pos h2]
theorem cAt_yes {ks:List Kind} {l:List Int} {i:Nat} (h:i < ks.length) (h2:nextV (cAt ks l i).2 3 ≠ 2):cAt ks l (i + 1) = ((cAt ks l i).1 ++ [⟨i,(vAt ks[i].fields (nextL (cAt ks l i).2 3) ks[i].fields.length).1⟩],(vAt ks[i].fields (nextL (cAt ks l i).2 3) ks[i].fields.length).2):=by
 rw [cAt,List.getElem?_eq_getElem h];simp only;rw [if_neg h2]
theorem pow_small {b:Nat} (h:b ≤ 32):(1:Int) ≤ 2 ^ b ∧ (2:Int) ^ b ≤ 4294967296:=by
 have h1:(2:Nat) ^ b ≤ 2 ^ 32:=Nat.pow_le_pow_right (by decide) h
 have h2:0 < (2:Nat) ^ b:=Nat.pow_pos (by decide)
 have h3:((2:Int) ^ b) = (((2:Nat) ^ b:Nat):Int):=by simp
 rw [h3]
 have:(2:Nat) ^ 32 = 4294967296:=by decide
 omega
theorem comps_po (G:Nat) (ks:List Kind) (l:List Int) (hk:KindsOK ks):PO Tryz.prog 32 [kindsA false false ks,.ptr G 0 0] G (streamO l) (compsA true false (genComps ks l).1) (streamO (genComps ks l).2):=by
 refine Spec.of (nt:=50) (res:=[.tmp 4]) Tryz.func32 rfl (by kernel_rfl) rfl rfl rfl fun Sf=>?_
 obtain ⟨hk0,hk1⟩:=hk
 (repeat refine WF ?_);refine AWP.region ?_;(repeat (first | refine WO ?_ | refine All.i fun X=>?_ | refine AllY.i fun Y=>?_));refine AOps.nil ?_;(repeat refine WN ?_)
 (repeat refine WF ?_);refine AWP.region ?_;(repeat (first | refine WO ?_ | refine All.i fun X=>?_ | refine AllY.i fun Y=>?_));refine AOps.nil ?_;(repeat refine WN ?_)
 (repeat refine WF ?_);refine AWP.region ?_;(repeat (first | refine WO ?_ | refine All.i fun X=>?_ | refine AllY.i fun Y=>?_));refine AOps.nil ?_;(repeat refine WN ?_)
 (repeat first | refine AOps.nil ?_ | refine WF ?_)
 refine AWP.adopt (d:=5) 42 2 rfl fun K=>?_
 refine AWP.lp5 (fun (i K:Nat) (M:List AV) (n:Nat) (q:List Int)=>⟨[(1,.ptr G 0 0),(5,.sl K 0 n),(11,kindsA false false ks),(12,iA (ks.map (kindA false)).length),(13,iA i)],(K,.row 42 2 M) :: (G,streamO q) :: Sf⟩) (fun i _ M n q=>i ≤ ks.length ∧ M = (cAt ks l i).1.map (compA false) ∧ n = M.length ∧ q = (cAt ks l i).2) (fun i _ _ _ _=>ks.length - i) 0 K [] 0 l ⟨Nat.zero_le _,rfl,rfl,rfl⟩ ?_
 rintro i K M n q ⟨hi,hM,hn,hq⟩
 (repeat (first | refine WK ?_ | refine All.i fun X=>?_ | refine AllY.i fun Y=>?_))
 refine AWP.cond rfl (fun hc=>?_) (fun hc=>?_)
 ·have h:i < ks.length:=by simpa using hc
  obtain ⟨hf0,hf1⟩:=hk1 _ (List.getElem_mem h)
  have h3:=nextV_range q (n:=3) (by decide)
  have hn1:n + 1 ≤ 1099511627776:=by have:=cAt_len ks l i;rw [hn,hM,List.length_map];omega
  (repeat (first | (refine AOps.gN ?_;first | (refine AOps.g_callf ?_;first | refine AOps.o2 (h:=(next_po G _ _ (by decide))) (k:=?_))) | refine WK ?_ | refine All.i fun X=>?_ | refine AllY.i fun Y=>?_))
  refine AWP.cond rfl (fun he=>?_) (fun he=>?_)
  ·have he:nextV q 3 = 2:=by simpa using he
   (repeat (first | refine WK ?_ | refine All.i fun X=>?_ | refine AllY.i fun Y=>?_))
   refine lp_next5 (i + 1) K M n _ ⟨h,?_,hn,?_⟩
   ·rw [cAt_no h (hq ▸ he),hM]
   ·rw [cAt_no h (hq ▸ he),hq]
  ·have he:nextV q 3 ≠ 2:=by simpa using he
   (repeat refine WF ?_);refine AWP.region ?_;(repeat (first | refine WO ?_ | refine All.i fun Y=>?_ | refine AllY.i fun Y=>?_));refine AOps.nil ?_;(repeat refine WN ?_)
   refine AWP.adoptIn (Y:=Y) 3 1 .here (fun F=>.cons (.agg (.cons .same (.cons (.base .nil) .nil))) .nil) fun F=>?_
   (repeat (first | refine WK ?_ | refine All.i fun X=>?_ | refine AllY.i fun Y=>?_))
   obtain ⟨fs,hfs⟩:∃ fs,ks[i].fields = fs:=⟨_,rfl⟩
   obtain ⟨q1,hq1⟩:∃ q1,nextL q 3 = q1:=⟨_,rfl⟩
   rw [hq1,hfs]
   have hck:cAt ks l (i + 1) = ((cAt ks l i).1 ++ [⟨i,(vAt fs q1 fs.length).1⟩],(vAt fs q1 fs.length).2):=by rw [cAt_yes h (hq ▸ he),← hq,hq1,hfs]
   rw [hfs] at hf0 hf1
   refine AWP.lp5 (fun (j F:Nat) (L:List AV) (m:Nat) (r:List Int)=>⟨[(1,.ptr G 0 0),(5,.sl K 0 n),(6,iA i),(8,.ptr Y 0 0),(11,kindsA false false ks),(12,iA (ks.map (kindA false)).length),(13,iA i),(24,fieldsA false fs),(25,iA (fs.map fieldA).length),(26,iA j)],(F,.row 3 1 L) :: (Y,.row 42 2 [.agg [iA i,.sl F 0 m]]) :: (K,.row 42 2 M) :: (G,streamO r) :: Sf⟩) (fun j _ L m r=>j ≤ fs.length ∧ L = (vAt fs q1 j).1.map iA ∧ m = L.length ∧ r = (vAt fs q1 j).2) (fun j _ _ _ _=>fs.length - j) 0 F [] 0 q1 ⟨Nat.zero_le _,rfl,rfl,rfl⟩ ?_
   rintro j F L m r ⟨hj,hL,hm,hr⟩
   (repeat (first | refine WK ?_ | refine All.i fun X=>?_ | refine AllY.i fun Y=>?_))
   refine AWP.cond rfl (fun hd=>?_) (fun hd=>?_)
   ·have hj':j < fs.length:=by simpa using hd
    obtain ⟨hb0,hb1,hl0,hl1⟩:=hf1 _ (List.getElem_mem hj')
    obtain ⟨b,hb⟩:∃ b:Nat,fs[j].bits = b:=⟨fs[j].bits.toNat,by omega⟩
    have hp:=pow_small (b:=b) (by omega)
    have hw:IntKind.i64.wrap (1 * 2 ^ b) = 2 ^ b:=by rw [Int.one_mul];exact wrap_id (by omega) (by omega)
    have hv:=nextV_range r (n:=IntKind.i64.wrap (1 * 2 ^ b)) (by omega)
    have hm1:m + 1 ≤ 1099511627776:=by have:=vAt_len fs q1 j;rw [hm,hL,List.length_map];omega
    (repeat (first | refine WK ?_ | refine All.i fun Z=>?_ | refine AllY.i fun Y=>?_))
    refine AWP.rs fun X7=>?_
    (repeat refine WF ?_);refine AWP.region_run (by kernel_rfl) (by kernel_rfl) ?_;(repeat (first | (refine RGo.gN ?_;first | (refine RGo.g_callf ?_;first | refine RGo.o2 (h:=(next_po G _ _ (by rw [hw];omega))) (k:=?_)) | refine RGo.p (W.shl rfl rfl hb (by show b ≤ 64;omega)) rfl ?_ | refine RGo.p (W.add rfl rfl (by omega)) rfl ?_) | (refine RGo.gQ ?_;first | (refine RGo.g_callf ?_;first | refine RGo.o2 (h:=(next_po G _ _ (by rw [hw];omega))) (k:=?_)) | refine RGo.p (W.shl rfl rfl hb (by show b ≤ 64;omega)) rfl ?_ | refine RGo.p (W.add rfl rfl (by omega)) rfl ?_) | refine RK ?_ | refine RGo.nil (by kernel_rfl) ?_))
    (repeat (first | refine WK ?_ | refine All.i fun X=>?_ | refine AllY.i fun Y=>?_))
    have hva:vAt fs q1 (j + 1) = ((vAt fs q1 j).1 ++ [fs[j].low + nextV r (IntKind.i64.wrap (1 * 2 ^ b))],nextL r (IntKind.i64.wrap (1 * 2 ^ b))):=by rw [vAt_next hj',← hr,hw,hb];rfl
    refine lp_next5 (j + 1) X7 _ _ _ ⟨hj',?_,?_,?_⟩
    ·rw [hva,hL,List.map_append];rfl
    ·rw [List.length_append,hm]
    ·rw [hva]
   ·have hj':j = fs.length:=by rw [decide_eq_false_iff_not,List.length_map] at hd;omega
    subst hj'
    (repeat first | refine AOps.nil ?_ | refine WF ?_)
    refine AWP.iceIn (X:=F) (Y:=Y) .here (.next .here) rfl (.cons (.agg (.cons .same (.cons (.base (.sl (by omega))) .nil))) .nil) ?_
    have hF:AV.frzs ((L.drop 0).take m) = (vAt fs q1 fs.length).1.map iA:=by
     rw [List.drop_zero,List.take_of_length_le (by omega),hL]
     exact Frzs.h
    rw [hF]
    (repeat (first | (refine AOps.gN ?_;first | (refine AOps.g_lit ?_;refine AOps.goL (compA false ⟨i,(vAt fs q1 fs.length).1⟩) ?_)) | refine WK ?_ | refine All.i fun X=>?_ | refine AllY.i fun Y=>?_))
    refine lp_next5 (i + 1) Y _ _ _ ⟨h,?_,?_,?_⟩
    ·rw [hck,hM,List.map_append];rfl
    ·rw [List.length_append,hn]
    ·rw [hck,hr]
 ·have h:i = ks.length:=by rw [decide_eq_false_iff_not,List.length_map] at hc;omega
  subst h
  (repeat (first | refine WK ?_ | refine All.i fun X=>?_ | refine AllY.i fun Y=>?_))
  (refine AWP.ret ?_;(repeat (first | refine inB_r ?_ | refine andThen_r ?_));refine retQ_r ?_)
  subst hM hq
  exact ⟨[.sl K 0 n],[.lst true 42 2 ((cAt ks l ks.length).1.map (compA false))],_,[(G,streamO (cAt ks l ks.length).2)],.cons (.tmp rfl) rfl .nil,.cons (.cell (.sl (p:=0) .here hn)) .nil,by exact Sub.f,rfl,rfl⟩
theorem wAt_len1 (ks:List Kind) (l:List Int) (i:Nat):(wAt ks l i).1.length = i:=by
 induction i with
 | zero=>rfl
 | succ i ih=>rw [wAt];split <;> simp [ih]
theorem wAt_len2 (ks:List Kind) (l:List Int) (i:Nat):(wAt ks l i).2.1.length ≤ i:=by
 induction i with
 | zero=>simp [wAt]
 | succ i ih=>rw [wAt];split <;> (try simp only [List.length_append,List.length_singleton]) <;> omega
def wdO (w:Wd):AV:=.agg [kindsA false false w.kinds,intsA true w.gens,itemsA true false w.items]
instance {w:Wd}:Frz (wdO w) (wdA false w):=⟨by unfold wdO wdA;exact Frz.h⟩
theorem genField_rng (i:Nat) (l:List Int):FieldOK (genField i l).1:=by
 have h9:=nextV_range l (n:=9) (by decide)
 have h40:=nextV_range (nextL l 9) (n:=40) (by decide)
 unfold genField
 split <;> refine ⟨?_,?_,?_,?_⟩ <;> simp <;> omega
theorem fAt_rng (i:Nat) (l:List Int):∀ f ∈ (fAt i l).1,FieldOK f:=by
 induction i with
 | zero=>intro f hf;cases hf
 | succ i ih =>
  intro f hf
  rcases List.mem_append.1 hf with hf | hf
  ·exact ih f hf
  ·rw [List.mem_singleton.1 hf];exact genField_rng _ _
theorem genKind_rng (k:Nat) (l:List Int):(genKind k l).1.fields.length ≤ 3 ∧ ∀ f ∈ (genKind k l).1.fields,FieldOK f:=by
 have h:=nextV_range l (n:=3) (by decide)
 show (genFields 0 (1 + nextV l 3).toNat (nextL l 3)).1.length ≤ 3 ∧ ∀ f ∈ (genFields 0 (1 + nextV l 3).toNat (nextL l 3)).1,FieldOK f
 rw [genFields_at]
 exact ⟨by rw [fAt_len];omega,fAt_rng _ _⟩
theorem kAt_rng (i:Nat) (l:List Int):∀ k ∈ (kAt i l).1,k.fields.length ≤ 3 ∧ ∀ f ∈ k.fields,FieldOK f:=by
 induction i with
 | zero=>intro f hf;cases hf
 | succ i ih =>
  intro f hf
  rcases List.mem_append.1 hf with hf | hf
  ·exact ih f hf
  ·rw [List.mem_singleton.1 hf];exact genKind_rng _ _
theorem genKinds_cnt (l:List Int):(genKinds l).1.length = (1 + nextV l 4).toNat:=by rw [genKinds_at,kAt_len]
theorem genKinds_rng (l:List Int):KindsOK (genKinds l).1:=by
 have h:=nextV_range l (n:=4) (by decide)
 refine ⟨by rw [genKinds_cnt];omega,?_⟩
 rw [genKinds_at]
 intro k hk
 have:=kAt_rng _ _ k hk
 exact ⟨by omega,this.2⟩
theorem world_ps (l:List Int):PS Tryz.prog 7 [intsA false l] (wdO (genWorld l)):=by
 refine Spec.of (nt:=52) (res:=[.cell 2 26]) Tryz.func7 rfl (by kernel_rfl) rfl rfl rfl fun Sf=>?_
 have hko:=genKinds_rng l
 obtain ⟨ks,hks⟩:∃ ks,(genKinds l).1 = ks:=⟨_,rfl⟩
 obtain ⟨l1,hl1⟩:∃ l1,(genKinds l).2 = l1:=⟨_,rfl⟩
 have h12:=nextV_range l1 (n:=12) (by decide)
 obtain ⟨c,hc⟩:∃ c:Nat,nextV l1 12 = c:=⟨(nextV l1 12).toNat,by omega⟩
 obtain ⟨l2,hl2⟩:∃ l2,nextL l1 12 = l2:=⟨_,rfl⟩
 have hg:genWorld l = ⟨ks,(wAt ks l2 c).1,(wAt ks l2 c).2.1⟩:=by unfold genWorld;rw [hks,hl1,hl2,hc];rfl
 have hkp:=fun G=>kinds_po G l
 rw [hks,hl1] at hkp
 rw [hks] at hko
 rw [hg]
 clear hg hks hl1
 (repeat refine WF ?_);refine AWP.region ?_;(repeat (first | refine WO ?_ | refine All.i fun R=>?_ | refine AllY.i fun Y=>?_));refine AOps.nil ?_;(repeat refine WN ?_)
 (repeat refine WF ?_);refine AWP.region ?_;(repeat (first | refine WO ?_ | refine All.i fun G=>?_ | refine AllY.i fun Y=>?_));refine AOps.nil ?_;(repeat refine WN ?_)
 (repeat refine WF ?_);refine AWP.region ?_;(repeat (first | (refine AOps.gN ?_;first | (refine AOps.g_callf ?_;first | refine AOps.o1 (h:=(hkp G)) (k:=?_))) | refine WO ?_ | refine All.i fun V=>?_ | refine AllY.i fun Y=>?_));refine AOps.nil ?_;(repeat refine WN ?_)
 (repeat refine WF ?_);refine AWP.region ?_;(repeat (first | (refine AOps.gN ?_;first | (refine AOps.g_callf ?_;first | refine AOps.o2 (h:=(next_po G _ _ (by decide))) (k:=?_))) | refine WO ?_ | refine All.i fun X=>?_ | refine AllY.i fun Y=>?_));refine AOps.nil ?_;(repeat refine WN ?_)
 rw [hl2,hc]
 refine AWP.adoptIn (Y:=V) 55 3 (by exact At.f) (fun F=>.cons (.agg (.cons .same (.cons .same (.cons (.base .nil) .nil)))) .nil) fun B=>?_
 refine AWP.adoptIn (Y:=V) 3 1 (by exact At.f) (fun F=>.cons (.agg (.cons .same (.cons (.base .nil) (.cons .same .nil)))) .nil) fun A=>?_
 (repeat first | refine AOps.nil ?_ | refine WF ?_)
 refine AWP.lp7 (fun (i A B:Nat) (L M:List AV) (n:Nat) (q:List Int)=>⟨[(2,.ptr R 0 0),(3,.ptr G 0 0),(4,.ptr V 0 0),(13,iA c),(14,iA i)],(A,.row 3 1 L) :: (B,.row 55 3 M) :: (V,.row 26 3 [.agg [kindsA false false ks,.sl A 0 i,.sl B 0 n]]) :: (G,streamO q) :: (R,.row 26 3 [.agg [.prim (.slice none 0 0),.prim (.slice none 0 0),.prim (.slice none 0 0)]]) :: Sf⟩) (fun i _ _ L M n q=>i ≤ c ∧ L = (wAt ks l2 i).1.map iA ∧ M = (wAt ks l2 i).2.1.map (itemA false) ∧ n = M.length ∧ q = (wAt ks l2 i).2.2) (fun i _ _ _ _ _ _=>c - i) 0 A B [] [] 0 l2 ⟨Nat.zero_le _,rfl,rfl,rfl,rfl⟩ ?_
 rintro i A B L M n q ⟨hi,hL,hM,hn,hq⟩
 have hA:=wAt_len1 ks l2 i
 have hB:=wAt_len2 ks l2 i
 (repeat (first | refine WK ?_ | refine All.i fun X=>?_ | refine AllY.i fun Y=>?_))
 refine AWP.cond rfl (fun hd=>?_) (fun hd=>?_)
 ·have h:i < c:=by rw [decide_eq_true_eq] at hd;omega
  have h3:=nextV_range q (n:=3) (by decide)
  have h4:=nextV_range (nextL q 3) (n:=4) (by decide)
  (repeat refine WF ?_);refine AWP.region ?_;(repeat (first | refine WO ?_ | refine All.i fun X=>?_ | refine AllY.i fun Y=>?_));refine AOps.nil ?_;(repeat refine WN ?_)
  refine AWP.rs fun X7=>?_
  (repeat refine WF ?_);refine AWP.region_run (by kernel_rfl) (by kernel_rfl) ?_;(repeat (first | (refine RGo.gN ?_;first | (refine RGo.g_callf ?_;first | refine RGo.o2 (h:=(next_po G _ _ (by decide))) (k:=?_))) | (refine RGo.gQ ?_;first | (refine RGo.g_callf ?_;first | refine RGo.o2 (h:=(next_po G _ _ (by decide))) (k:=?_))) | refine RK ?_ | refine RGo.nil (by kernel_rfl) ?_))
  (repeat (first | (refine AOps.gN ?_;first | (refine AOps.g_callf ?_;first | refine AOps.o2 (h:=(next_po G _ _ (by decide))) (k:=?_))) | refine WK ?_ | refine All.i fun X=>?_ | refine AllY.i fun Y=>?_))
  have hLl:L.length = i:=by rw [hL,List.length_map,hA]
  obtain ⟨IT,hIT⟩:∃ IT,(wAt ks l2 i).2.1 = IT:=⟨_,rfl⟩
  rw [hIT] at hM hB
  have hnl:n = IT.length:=by rw [hn,hM,List.length_map]
  have hat:(L ++ [.prim (.int .i64 (nextV q 3))])[i]? = some (.prim (.int .i64 (nextV q 3))):=by rw [← hLl];simp
  refine AWP.cond rfl (fun he=>?_) (fun he=>?_)
  ·have he:nextV (nextL q 3) 4 = 3 ∨ n = 8:=by rw [Bool.or_eq_true,decide_eq_true_eq,decide_eq_true_eq] at he;omega
   have hw:wAt ks l2 (i + 1) = ((wAt ks l2 i).1 ++ [nextV q 3],IT,nextL (nextL q 3) 4):=by rw [wAt,← hq,hIT,← hnl,if_pos he]
   (repeat (first | refine WK ?_ | refine All.i fun X=>?_ | refine AllY.i fun Y=>?_))
   refine lp_next7 (i + 1) X7 B _ M n _ ⟨h,?_,?_,hn,?_⟩
   ·rw [hw,hL,List.map_append];rfl
   ·rw [hw,hM]
   ·rw [hw]
  ·have he:¬ (nextV (nextL q 3) 4 = 3 ∨ n = 8):=by rw [Bool.or_eq_false_iff,decide_eq_false_iff_not,decide_eq_false_iff_not] at he;omega
   have hw:wAt ks l2 (i + 1) = ((wAt ks l2 i).1 ++ [nextV q 3],IT ++ [⟨⟨i,nextV q 3⟩,(genComps ks (nextL (nextL q 3) 4)).1⟩],(genComps ks (nextL (nextL q 3) 4)).2):=by rw [wAt,← hq,hIT,← hnl,if_neg he]
   have hin:i < i + [AV.prim (.int .i64 (nextV q 3))].length:=Nat.lt_succ_self i
   refine AWP.rs fun X8=>?_
   (repeat refine WF ?_);refine AWP.region_run (by kernel_rfl) (by kernel_rfl) ?_;(repeat (first | (refine RGo.gN ?_;first | (refine RGo.g_callf ?_;first | refine RGo.o2 (h:=(comps_po G ks _ hko)) (k:=?_)) | (refine RGo.g_lit ?_;refine RGo.goL (itemA false ⟨⟨i,nextV q 3⟩,(genComps ks (nextL (nextL q 3) 4)).1⟩) ?_)) | (refine RGo.gQ ?_;first | (refine RGo.g_callf ?_;first | refine RGo.o2 (h:=(comps_po G ks _ hko)) (k:=?_)) | (refine RGo.g_lit ?_;refine RGo.goL (itemA false ⟨⟨i,nextV q 3⟩,(genComps ks (nextL (nextL q 3) 4)).1⟩) ?_)) | refine RK ?_ | refine RGo.nil (by kernel_rfl) ?_))
   (repeat (first | refine WK ?_ | refine All.i fun X=>?_ | refine AllY.i fun Y=>?_))
   refine lp_next7 (i + 1) X7 X8 _ _ _ _ ⟨h,?_,?_,?_,?_⟩
   ·rw [hw,hL,List.map_append];rfl
   ·rw [hw,hM,List.map_append];rfl
   ·rw [List.length_append,hn]
   ·rw [hw]
 ·have h:i = c:=by rw [decide_eq_false_iff_not] at hd;omega
  subst h
  (repeat (first | refine WK ?_ | refine All.i fun X=>?_ | refine AllY.i fun Y=>?_))
  (refine AWP.ret ?_;(repeat (first | refine inB_r ?_ | refine andThen_r ?_));refine retQ_r ?_)
  subst hL hM
  have hA:i = ((wAt ks l2 i).1.map iA).length:=by rw [List.length_map,hA]
  exact ⟨[.agg [kindsA false false ks,.sl A 0 i,.sl B 0 n]],[wdO ⟨ks,(wAt ks l2 i).1,(wAt ks l2 i).2.1⟩],_,[],.cons (.cell (p:=4) rfl (by exact At.f) TAg.h TSize.h rfl rfl) rfl .nil,.cons (.agg (.cons .same (.cons (.sl (p:=0) .here hA) (.cons (.sl (p:=0) .here hn) .nil)))) .nil,by exact Sub.f,rfl,rfl⟩
theorem cAt_mem {ks:List Kind} {l:List Int} {i:Nat} {c:Comp} (h:c ∈ (cAt ks l i).1):∃ (j:Nat) (hj:j < ks.length) (q:List Int),j < i ∧ c = ⟨j,(vAt ks[j].fields q ks[j].fields.length).1⟩:=by
 induction i with
 | zero=>cases h
 | succ i ih =>
  by_cases hi:i < ks.length
  ·by_cases h2:nextV (cAt ks l i).2 3 = 2
   ·rw [cAt_no hi h2] at h
    obtain ⟨j,hj,q,h3,h4⟩:=ih h
    exact ⟨j,hj,q,by omega,h4⟩
   ·rw [cAt_yes hi h2] at h
    rcases List.mem_append.1 h with h | h
    ·obtain ⟨j,hj,q,h3,h4⟩:=ih h
     exact ⟨j,hj,q,by omega,h4⟩
    ·rw [List.mem_singleton.1 h]
     exact ⟨i,hi,_,by omega,rfl⟩
  ·rw [cAt,List.getElem?_eq_none (by omega)] at h
   obtain ⟨j,hj,q,h3,h4⟩:=ih h
   exact ⟨j,hj,q,by omega,h4⟩
theorem wAt_mem {ks:List Kind} {l:List Int} {i:Nat} {it:Item} (h:it ∈ (wAt ks l i).2.1):∃ (j:Nat) (q:List Int),j < i ∧ (wAt ks l i).1[j]? = some it.ent.gen ∧ it.ent.n = j ∧ it.comps = (genComps ks q).1:=by
 induction i with
 | zero=>cases h
 | succ i ih =>
  have hl:=wAt_len1 ks l i
  have hup:∀ (x:Int) (g:Int) (j:Nat),(wAt ks l i).1[j]? = some g → ((wAt ks l i).1 ++ [x])[j]? = some g:=fun x g j hg=>by
   rw [List.getElem?_append_left (List.getElem?_eq_some_iff.1 hg).1,hg]
  rw [wAt] at h ⊢
  split
  ·rename_i hs
   rw [if_pos hs] at h
   obtain ⟨j,q,h1,h2,h3,h4⟩:=ih h
   exact ⟨j,q,by omega,hup _ _ _ h2,h3,h4⟩
  ·rename_i hs
   rw [if_neg hs] at h
   rcases List.mem_append.1 h with h | h
   ·obtain ⟨j,q,h1,h2,h3,h4⟩:=ih h
    exact ⟨j,q,by omega,hup _ _ _ h2,h3,h4⟩
   ·rw [List.mem_singleton.1 h]
    exact ⟨i,_,by omega,by rw [List.getElem?_append_right (by omega),hl];simp,rfl,rfl⟩
theorem genKinds_small (l:List Int):(genKinds l).1.length ≤ 4 ∧ ∀ k ∈ (genKinds l).1,k.fields.length ≤ 3:=by
 have h:=nextV_range l (n:=4) (by decide)
 refine ⟨by rw [genKinds_cnt];omega,?_⟩
 rw [genKinds_at]
 intro k hk
 exact (kAt_rng _ _ k hk).1
theorem heldFrom_iff {ks:List Kind}:∀ {l:List Comp} {last:Int},-1 ≤ last → (heldFrom ks last l = true ↔ l.Pairwise (fun a b=>a.kind < b.kind) ∧ ∀ c ∈ l,last < c.kind ∧ c.kind < ks.length ∧ ∃ k,ks[c.kind.toNat]? = some k ∧ holdsOf k c.vals = true)
 | [],_,_=>by simp [heldFrom]
 | c :: l,last,hl=>by
  rw [heldFrom]
  constructor
  ·intro h
   split at h
   ·rename_i k hk
    simp only [Bool.and_eq_true,decide_eq_true_eq] at h
    obtain ⟨⟨⟨h1,h2⟩,h3⟩,h4⟩:=h
    obtain ⟨h5,h6⟩:=(heldFrom_iff (by omega)).1 h4
    refine ⟨List.pairwise_cons.2 ⟨fun d hd=>(h6 d hd).1,h5⟩,fun d hd=>?_⟩
    rcases List.mem_cons.1 hd with rfl | hd
    ·exact ⟨h1,h2,k,hk,h3⟩
    ·obtain ⟨q1,q2⟩:=h6 d hd
     exact ⟨by omega,q2⟩
   ·cases h
  ·rintro ⟨h1,h2⟩
   obtain ⟨h3,h4⟩:=List.pairwise_cons.1 h1
   obtain ⟨h5,h6,k,hk,h7⟩:=h2 c (by simp)
   rw [hk]
   simp only [Bool.and_eq_true,decide_eq_true_eq]
   exact ⟨⟨⟨h5,h6⟩,h7⟩,(heldFrom_iff (by omega)).2 ⟨h4,fun d hd=>⟨h3 d hd,(h2 d (by simp [hd])).2⟩⟩⟩
theorem itemsFrom_iff {ks:List Kind} {gens:List Int}:∀ {l:List Item} {last:Int},-1 ≤ last → (itemsFrom ks gens last l = true ↔ l.Pairwise (fun a b=>a.ent.n < b.ent.n) ∧ ∀ it ∈ l,last < it.ent.n ∧ it.ent.n < gens.length ∧ gens[it.ent.n.toNat]? = some it.ent.gen ∧ it.ent.gen ≠ 1073741824 ∧ heldOf ks it.comps = true)
 | [],_,_=>by simp [itemsFrom]
 | c :: l,last,hl=>by
  rw [itemsFrom]
  constructor
  ·intro h
   split at h
   ·rename_i k hk
    simp only [Bool.and_eq_true,decide_eq_true_eq,Bool.not_eq_true',decide_eq_false_iff_not] at h
    obtain ⟨⟨⟨⟨⟨h1,h2⟩,h3⟩,h4⟩,h7⟩,h8⟩:=h
    obtain ⟨h5,h6⟩:=(itemsFrom_iff (by omega)).1 h8
    refine ⟨List.pairwise_cons.2 ⟨fun d hd=>(h6 d hd).1,h5⟩,fun d hd=>?_⟩
    rcases List.mem_cons.1 hd with rfl | hd
    ·exact ⟨h1,h2,by rw [hk,h3],h4,h7⟩
    ·obtain ⟨q1,q2⟩:=h6 d hd
     exact ⟨by omega,q2⟩
   ·cases h
  ·rintro ⟨h1,h2⟩
   obtain ⟨h3,h4⟩:=List.pairwise_cons.1 h1
   obtain ⟨h5,h6,hk,h7,h8⟩:=h2 c (by simp)
   rw [hk]
   simp only [Bool.and_eq_true,decide_eq_true_eq,Bool.not_eq_true',decide_eq_false_iff_not]
   exact ⟨⟨⟨⟨⟨h5,h6⟩,trivial⟩,h7⟩,h8⟩,(itemsFrom_iff (by omega)).2 ⟨h4,fun d hd=>⟨h3 d hd,(h2 d (by simp [hd])).2⟩⟩⟩
structure WdOK (w:Wd):Prop where
 ks:checkErr w.kinds = 0
 gl:w.gens.length ≤ 256
 il:w.items.length ≤ w.gens.length
 gs:∀ g ∈ w.gens,0 ≤ g ∧ g ≤ 1073741824
 so:w.items.Pairwise fun a b=>a.ent.n < b.ent.n
 it:∀ it ∈ w.items,0 ≤ it.ent.n ∧ it.ent.n < w.gens.length ∧ w.gens[it.ent.n.toNat]? = some it.ent.gen ∧ it.ent.gen ≠ 1073741824 ∧ heldOf w.kinds it.comps = true
theorem wdErr_iff (w:Wd):wdErr w = 0 ↔ WdOK w:=by
 have hg:gensOk w.gens = true ↔ ∀ g ∈ w.gens,0 ≤ g ∧ g ≤ 1073741824:=by
  unfold gensOk
  rw [List.all_eq_true]
  simp only [Bool.and_eq_true,decide_eq_true_eq]
 have hi:=itemsFrom_iff (ks:=w.kinds) (gens:=w.gens) (l:=w.items) (last:=-1) (by omega)
 unfold wdErr
 constructor
 ·intro h
  split at h
  ·exact absurd h ‹_›
  rename_i h1
  split at h
  ·cases h
  rename_i h2
  split at h
  ·cases h
  rename_i h3
  split at h
  ·cases h
  rename_i h4
  obtain ⟨h5,h6⟩:=hi.1 (by simpa using h4)
  exact ⟨by simpa using h1,by omega,by omega,hg.1 (by simpa using h3),h5,fun it hit=>by obtain ⟨a,b⟩:=h6 it hit;exact ⟨by omega,b⟩⟩
 ·intro h
  rw [if_neg (by simp [h.ks]),if_neg (by have:=h.gl;have:=h.il;omega),if_neg (by rw [hg.2 h.gs];simp),if_neg (by rw [hi.2 ⟨h.so,fun it hit=>by obtain ⟨a,b⟩:=h.it it hit;exact ⟨by omega,b⟩⟩];simp)]
theorem cAt_pair (ks:List Kind) (l:List Int) (i:Nat):(cAt ks l i).1.Pairwise fun a b=>a.kind < b.kind:=by
 induction i with
 | zero=>exact .nil
 | succ i ih =>
  by_cases hi:i < ks.length
  ·by_cases h2:nextV (cAt ks l i).2 3 = 2
   ·rw [cAt_no hi h2];exact ih
   ·rw [cAt_yes hi h2]
    refine List.pairwise_append.2 ⟨ih,List.pairwise_singleton ..,fun a ha b hb=>?_⟩
    rw [List.mem_singleton.1 hb]
    obtain ⟨j,hj,q,hji,rfl⟩:=cAt_mem ha
    show (j:Int) < i
    omega
  ·rw [cAt,List.getElem?_eq_none (by omega)];exact ih
theorem vAt_fit {fs:List Field} (hf:∀ f ∈ fs,fieldErr f = 0) (hr:∀ f ∈ fs,FieldOK f) (l:List Int):∀ i,i ≤ fs.length → List.zipWith nearOf (fs.take i) (vAt fs l i).1 = (vAt fs l i).1 ∧ (vAt fs l i).1.length = i
 | 0,_=>⟨rfl,rfl⟩
 | i + 1,h=>by
  obtain ⟨h1,h2⟩:=vAt_fit hf hr l i (by omega)
  rw [vAt_next (by omega)]
  have hm:=List.getElem_mem (l:=fs) (n:=i) (by omega)
  obtain ⟨hb0,hb1,_,_⟩:=hr _ hm
  have hp:=pow_small (b:=fs[i].bits.toNat) (by omega)
  have hv:=nextV_range (vAt fs l i).2 (n:=2 ^ fs[i].bits.toNat) (by omega)
  have hh:highOf fs[i] = fs[i].low + (2 ^ fs[i].bits.toNat - 1):=by unfold highOf;rw [if_pos (hf _ hm)]
  refine ⟨?_,by rw [List.length_append,h2];rfl⟩
  rw [List.take_succ_eq_append_getElem (by omega),List.zipWith_append (by rw [h2,List.length_take];omega),h1]
  simp only [List.zipWith_cons_cons,List.zipWith_nil_left]
  rw [near_in (hf _ hm) (by omega) (by rw [hh];omega)]
theorem vAt_holds {k:Kind} (h1:oneErr k = 0) (hf:∀ f ∈ k.fields,fieldErr f = 0) (hr:∀ f ∈ k.fields,FieldOK f) (l:List Int):holdsOf k (vAt k.fields l k.fields.length).1 = true:=by
 obtain ⟨h2,h3⟩:=vAt_fit hf hr l k.fields.length (Nat.le_refl _)
 rw [List.take_length] at h2
 unfold holdsOf
 rw [fitOf_ok h1 h3,h2]
 simp
structure KsGood (ks:List Kind):Prop where
 one:∀ k ∈ ks,oneErr k = 0
 fld:∀ k ∈ ks,∀ f ∈ k.fields,fieldErr f = 0
 rng:∀ k ∈ ks,∀ f ∈ k.fields,FieldOK f
theorem genKinds_good (l:List Int):KsGood (genKinds l).1 :=
 ⟨genKinds_ok l,fun k hk=>(genKinds_fields l k hk).1,fun k hk=>((genKinds_rng l).2 k hk).2⟩
theorem genComps_held {ks:List Kind} (h:KsGood ks) (l:List Int):heldOf ks (genComps ks l).1 = true:=by
 unfold heldOf
 rw [heldFrom_iff (by omega)]
 refine ⟨cAt_pair _ _ _,fun c hc=>?_⟩
 obtain ⟨j,hj,q,_,rfl⟩:=cAt_mem hc
 have hm:=List.getElem_mem hj
 exact ⟨by show (-1:Int) < (j:Int);omega,by show (j:Int) < _;omega,ks[j],List.getElem?_eq_getElem hj,vAt_holds (h.one _ hm) (h.fld _ hm) (h.rng _ hm) q⟩
theorem wAt_pair (ks:List Kind) (l:List Int) (i:Nat):(wAt ks l i).2.1.Pairwise fun a b=>a.ent.n < b.ent.n:=by
 induction i with
 | zero=>exact .nil
 | succ i ih =>
  rw [wAt]
  split
  ·exact ih
  ·refine List.pairwise_append.2 ⟨ih,List.pairwise_singleton ..,fun a ha b hb=>?_⟩
   rw [List.mem_singleton.1 hb]
   obtain ⟨j,q,hji,_,e,_⟩:=wAt_mem ha
   show a.ent.n < (i:Int)
   omega
theorem wAt_gens (ks:List Kind) (l:List Int) (i:Nat):∀ g ∈ (wAt ks l i).1,0 ≤ g ∧ g < 3:=by
 induction i with
 | zero=>intro g hg;cases hg
 | succ i ih =>
  intro g hg
  rw [wAt] at hg
  have h3:=nextV_range (wAt ks l i).2.2 (n:=3) (by decide)
  split at hg <;>
  ·rcases List.mem_append.1 hg with hg | hg
   ·exact ih g hg
   ·rw [List.mem_singleton.1 hg];exact h3
theorem genWorld_ok (l:List Int):WdOK (genWorld l):=by
 have h:=nextV_range (genKinds l).2 (n:=12) (by decide)
 have h1:=wAt_len2 (genKinds l).1 (nextL (genKinds l).2 12) (nextV (genKinds l).2 12).toNat
 have h2:=wAt_len1 (genKinds l).1 (nextL (genKinds l).2 12) (nextV (genKinds l).2 12).toNat
 have h3:=wAt_gens (genKinds l).1 (nextL (genKinds l).2 12) (nextV (genKinds l).2 12).toNat
 refine ⟨genKinds_check l,?_,?_,fun g hg=>?_,wAt_pair _ _ _,fun it hit=>?_⟩
 ·exact Nat.le_trans (Nat.le_of_eq h2) (by omega)
 ·exact Nat.le_trans h1 (Nat.le_of_eq h2.symm)
 ·have:=h3 g hg;omega
 ·obtain ⟨j,q,hji,hg,hn,hc⟩:=wAt_mem hit
  have hjl:j < (wAt (genKinds l).1 (nextL (genKinds l).2 12) (nextV (genKinds l).2 12).toNat).1.length:=(List.getElem?_eq_some_iff.1 hg).1
  have hgm:=h3 _ (List.mem_of_getElem? hg)
  refine ⟨by omega,?_,?_,by omega,by rw [hc];exact genComps_held (genKinds_good l) q⟩
  ·rw [hn];show (j:Int) < ((wAt _ _ _).1.length:Int);omega
  ·rw [hn];exact hg
section
section
variable {α:Type} {key:α → Int} {l a b:List α}
def KS (key:α → Int) (l:List α):Prop:=l.Pairwise fun a b=>key a < key b
theorem ks_uniq (h:KS key l) {x y:α} (hx:x ∈ l) (hy:y ∈ l) (e:key x = key y):x = y:=by
 induction l with
 | nil=>cases hx
 | cons z l ih =>
  obtain ⟨h1,h2⟩:=List.pairwise_cons.1 h
  rcases List.mem_cons.1 hx with q | q <;> rcases List.mem_cons.1 hy with r | r
  ·rw [q,r]
  ·subst q;have:=h1 y r;omega
  ·subst r;have:=h1 x q;omega
  ·exact ih h2 q r
theorem ks_ext:∀ {a b:List α},KS key a → KS key b → (∀ x,x ∈ a ↔ x ∈ b) → a = b
 | [],[],_,_,_=>rfl
 | [],y :: b,_,_,h=>absurd ((h y).2 (by simp)) (by simp)
 | x :: a,[],_,_,h=>absurd ((h x).1 (by simp)) (by simp)
 | x :: a,y :: b,ha,hb,h=>by
  obtain ⟨a1,a2⟩:=List.pairwise_cons.1 ha
  obtain ⟨b1,b2⟩:=List.pairwise_cons.1 hb
  have e:x = y:=by
   rcases List.mem_cons.1 ((h x).1 (by simp)) with e | h1
   ·exact e
   ·rcases List.mem_cons.1 ((h y).2 (by simp)) with e | h2
    ·exact e.symm
    ·have:=b1 x h1;have:=a1 y h2;omega
  subst e
  rw [ks_ext a2 b2 fun z=>?_]
  constructor
  ·intro hz
   rcases List.mem_cons.1 ((h z).1 (by simp [hz])) with e | h1
   ·have:=a1 z hz;rw [e] at this;omega
   ·exact h1
  ·intro hz
   rcases List.mem_cons.1 ((h z).2 (by simp [hz])) with e | h1
   ·have:=b1 z hz;rw [e] at this;omega
   ·exact h1
theorem split_at {i:Nat} {y:α} (hi:l[i]? = some y):l = l.take i ++ y :: l.drop (i + 1):=by
 obtain ⟨h,rfl⟩:=List.getElem?_eq_some_iff.1 hi
 rw [← List.drop_eq_getElem_cons h,List.take_append_drop]
theorem ks_parts {i:Nat} {y:α} (h:KS key l) (hi:l[i]? = some y):KS key (l.take i) ∧ KS key (l.drop (i + 1)) ∧ (∀ x ∈ l.take i,key x < key y) ∧ (∀ x ∈ l.drop (i + 1),key y < key x) ∧ ∀ x,x ∈ l ↔ x ∈ l.take i ∨ x = y ∨ x ∈ l.drop (i + 1):=by
 have e:=split_at hi
 have h':=h
 rw [e] at h'
 obtain ⟨h1,h2,h3⟩:=List.pairwise_append.1 h'
 obtain ⟨h4,h5⟩:=List.pairwise_cons.1 h2
 refine ⟨h1,h5,fun x hx=>h3 x hx y (by simp),h4,fun x=>?_⟩
 conv=>lhs;rw [e]
 simp
theorem ks_erase {i:Nat} {y:α} (h:KS key l) (hi:l[i]? = some y):KS key (l.eraseIdx i) ∧ ∀ x,x ∈ l.eraseIdx i ↔ x ∈ l ∧ key x ≠ key y:=by
 obtain ⟨h1,h2,h3,h4,h5⟩:=ks_parts h hi
 refine ⟨h.sublist (List.eraseIdx_sublist _ _),fun x=>?_⟩
 rw [List.eraseIdx_eq_take_drop_succ,List.mem_append,h5]
 constructor
 ·rintro (hx | hx)
  ·exact ⟨.inl hx,by have:=h3 x hx;omega⟩
  ·exact ⟨.inr (.inr hx),by have:=h4 x hx;omega⟩
 ·rintro ⟨hx | rfl | hx,hn⟩
  ·exact .inl hx
  ·exact absurd rfl hn
  ·exact .inr hx
theorem ks_set {i:Nat} {y z:α} (h:KS key l) (hi:l[i]? = some y) (hk:key z = key y):KS key (l.set i z) ∧ ∀ x,x ∈ l.set i z ↔ x = z ∨ (x ∈ l ∧ key x ≠ key z):=by
 obtain ⟨h1,h2,h3,h4,h5⟩:=ks_parts h hi
 obtain ⟨hl,_⟩:=List.getElem?_eq_some_iff.1 hi
 have e:l.set i z = l.take i ++ z :: l.drop (i + 1):=List.set_eq_take_append_cons_drop.trans (if_pos hl)
 rw [e]
 refine ⟨List.pairwise_append.2 ⟨h1,List.pairwise_cons.2 ⟨fun x hx=>by have:=h4 x hx;omega,h2⟩,fun x hx w hw=>?_⟩,fun x=>?_⟩
 ·rcases List.mem_cons.1 hw with rfl | hw
  ·have:=h3 x hx;omega
  ·have:=h3 x hx;have:=h4 w hw;omega
 ·rw [h5,List.mem_append,List.mem_cons]
  constructor
  ·rintro (hx | rfl | hx)
   ·exact .inr ⟨.inl hx,by have:=h3 x hx;omega⟩
   ·exact .inl rfl
   ·exact .inr ⟨.inr (.inr hx),by have:=h4 x hx;omega⟩
  ·rintro (rfl | ⟨hx | rfl | hx,hn⟩)
   ·exact .inr (.inl rfl)
   ·exact .inl hx
   ·exact absurd hk.symm hn
   ·exact .inr (.inr hx)
theorem ks_find (h:KS key l) {n:Int} {x:α}:(l.find? fun y=>decide (key y = n)) = some x ↔ x ∈ l ∧ key x = n:=by
 constructor
 ·intro e
  exact ⟨List.mem_of_find?_eq_some e,by simpa using List.find?_some e⟩
 ·rintro ⟨hx,e⟩
  cases hf:l.find? fun y=>decide (key y = n) with
  | none=>rw [List.find?_eq_none] at hf;exact absurd (by simpa using e) (hf x hx)
  | some z=>rw [ks_uniq h hx (List.mem_of_find?_eq_some hf) (by have:=List.find?_some hf;simp at this;omega)]
end
theorem held_iff {ks:List Kind} {l:List Comp}:heldOf ks l = true ↔ SortC l ∧ ∀ c ∈ l,0 ≤ c.kind ∧ c.kind < ks.length ∧ ∃ k,ks[c.kind.toNat]? = some k ∧ holdsOf k c.vals = true:=by
 unfold heldOf
 rw [heldFrom_iff (by omega)]
 constructor
 ·rintro ⟨h1,h2⟩
  exact ⟨h1,fun c hc=>⟨by have:=(h2 c hc).1;omega,(h2 c hc).2⟩⟩
 ·rintro ⟨h1,h2⟩
  exact ⟨h1,fun c hc=>⟨by have:=(h2 c hc).1;omega,(h2 c hc).2⟩⟩
theorem insC_mem {c:Comp}:∀ {l:List Comp},SortC l → ∀ d,d ∈ insC l c ↔ d = c ∨ (d ∈ l ∧ d.kind ≠ c.kind)
 | [],_,d=>by simp [insC]
 | x :: l,h,d=>by
  obtain ⟨h1,h2⟩:=List.pairwise_cons.1 h
  rw [insC]
  split
  ·rename_i hx
   rw [List.mem_cons,insC_mem h2,List.mem_cons]
   constructor
   ·rintro (rfl | rfl | ⟨hd,hn⟩)
    ·exact .inr ⟨.inl rfl,by omega⟩
    ·exact .inl rfl
    ·exact .inr ⟨.inr hd,hn⟩
   ·rintro (rfl | ⟨rfl | hd,hn⟩)
    ·exact .inr (.inl rfl)
    ·exact .inl rfl
    ·exact .inr (.inr ⟨hd,hn⟩)
  ·split
   ·rename_i hx
    rw [List.mem_cons,List.mem_cons]
    constructor
    ·rintro (rfl | hd)
     ·exact .inl rfl
     ·exact .inr ⟨.inr hd,by have:=h1 d hd;omega⟩
    ·rintro (rfl | ⟨rfl | hd,hn⟩)
     ·exact .inl rfl
     ·exact absurd hx hn
     ·exact .inr hd
   ·rw [List.mem_cons,List.mem_cons]
    constructor
    ·rintro (rfl | rfl | hd)
     ·exact .inl rfl
     ·exact .inr ⟨.inl rfl,by omega⟩
     ·exact .inr ⟨.inr hd,by have:=h1 d hd;omega⟩
    ·rintro (rfl | ⟨hd,hn⟩)
     ·exact .inl rfl
     ·exact .inr hd
theorem insC_sort {c:Comp}:∀ {l:List Comp},SortC l → SortC (insC l c)
 | [],_=>List.pairwise_singleton ..
 | x :: l,h=>by
  obtain ⟨h1,h2⟩:=List.pairwise_cons.1 h
  rw [insC]
  split
  ·rename_i hx
   refine List.pairwise_cons.2 ⟨fun d hd=>?_,insC_sort h2⟩
   rcases (insC_mem h2 d).1 hd with rfl | ⟨hd,_⟩
   ·exact hx
   ·exact h1 d hd
  ·split
   ·rename_i hx
    exact List.pairwise_cons.2 ⟨fun d hd=>by have:=h1 d hd;omega,h2⟩
   ·refine List.pairwise_cons.2 ⟨fun d hd=>?_,h⟩
    rcases List.mem_cons.1 hd with rfl | hd
    ·omega
    ·have:=h1 d hd;omega
theorem dropC_mem {l:List Comp} {k:Int} (d:Comp):d ∈ dropC l k ↔ d ∈ l ∧ d.kind ≠ k:=by
 unfold dropC;rw [List.mem_filter];simp
theorem dropC_sort {l:List Comp} {k:Int} (h:SortC l):SortC (dropC l k):=List.Pairwise.filter _ h
theorem sortC_ext {a b:List Comp} (ha:SortC a) (hb:SortC b) (h:∀ x,x ∈ a ↔ x ∈ b):a = b:=ks_ext (key:=Comp.kind) ha hb h
theorem compOf_iff {l:List Comp} (h:SortC l) {k:Int} {c:Comp}:compOf l k = some c ↔ c ∈ l ∧ c.kind = k:=ks_find (key:=Comp.kind) h
theorem held_ins {ks:List Kind} {l:List Comp} {c:Comp} (h:heldOf ks l = true) (h1:0 ≤ c.kind) (h2:c.kind < ks.length) {k:Kind} (h3:ks[c.kind.toNat]? = some k) (h4:holdsOf k c.vals = true):heldOf ks (insC l c) = true:=by
 obtain ⟨hs,hm⟩:=held_iff.1 h
 refine held_iff.2 ⟨insC_sort hs,fun d hd=>?_⟩
 rcases (insC_mem hs d).1 hd with rfl | ⟨hd,_⟩
 ·exact ⟨h1,h2,k,h3,h4⟩
 ·exact hm d hd
theorem held_drop {ks:List Kind} {l:List Comp} {k:Int} (h:heldOf ks l = true):heldOf ks (dropC l k) = true:=by
 obtain ⟨hs,hm⟩:=held_iff.1 h
 exact held_iff.2 ⟨dropC_sort hs,fun d hd=>hm d ((dropC_mem d).1 hd).1⟩
theorem kindsErr_one {pre ks:List Kind} (h:kindsErr pre ks = 0):∀ k ∈ ks,oneErr k = 0:=by
 induction ks generalizing pre with
 | nil=>intro k hk;cases hk
 | cons x l ih =>
  intro k hk
  simp only [kindsErr] at h
  split at h
  ·exact absurd h ‹_›
  ·rename_i hx
   split at h
   ·cases h
   ·rcases List.mem_cons.1 hk with rfl | hk
    ·simpa using hx
    ·exact ih h k hk
theorem checkErr_one {ks:List Kind} (h:checkErr ks = 0):ks.length ≤ 16 ∧ ∀ k ∈ ks,oneErr k = 0:=by
 unfold checkErr at h
 split at h
 ·cases h
 ·exact ⟨by omega,kindsErr_one h⟩
def fitC (ks:List Kind) (c:Comp):Comp:=match ks[c.kind.toNat]? with
 | some k=>⟨c.kind,(fitOf k c.vals).1⟩
 | none=>c
theorem fitC_kind (ks:List Kind) (c:Comp):(fitC ks c).kind = c.kind:=by unfold fitC;split <;> rfl
def FitOK (ks:List Kind) (c:Comp):Prop:=0 ≤ c.kind ∧ c.kind < ks.length ∧ ∃ k,ks[c.kind.toNat]? = some k ∧ (fitOf k c.vals).2 = 0
theorem fitC_eq {ks:List Kind} {c:Comp} {k:Kind} (h:ks[c.kind.toNat]? = some k):fitC ks c = ⟨c.kind,(fitOf k c.vals).1⟩:=by
 unfold fitC;rw [h]
theorem fitGo_good {ks:List Kind}:∀ {l pre out:List Comp},(∀ c ∈ l,FitOK ks c) → l.Pairwise (fun a b=>a.kind ≠ b.kind) → (∀ a ∈ pre,∀ b ∈ l,a.kind ≠ b.kind) → fitGo ks pre out l = (out ++ l.map (fitC ks),0)
 | [],pre,out,_,_,_=>by simp [fitGo]
 | c :: l,pre,out,h1,h2,h3=>by
  obtain ⟨a,b,k,hk,hf⟩:=h1 c (by simp)
  obtain ⟨h4,h5⟩:=List.pairwise_cons.1 h2
  have hany:pre.any (fun o=>decide (o.kind = c.kind)) = false:=by
   rw [List.any_eq_false]
   intro x hx
   simpa using h3 x hx c (by simp)
  rw [fitGo,if_neg (by omega),hany,if_neg (by simp),hk]
  dsimp only
  rw [if_neg (by simp [hf]),fitGo_good (fun d hd=>h1 d (by simp [hd])) h5 (fun x hx d hd=>?_),List.map_cons,fitC_eq hk]
  ·simp
  ·rcases List.mem_append.1 hx with hx | hx
   ·exact h3 x hx d (by simp [hd])
   ·rw [List.mem_singleton.1 hx];exact h4 d hd
theorem wFit_good {ks:List Kind} (hk:checkErr ks = 0) {l:List Comp} (h1:∀ c ∈ l,FitOK ks c) (h2:l.Pairwise (fun a b=>a.kind ≠ b.kind)):wFit ks l = (kSort (l.map (fitC ks)),0):=by
 unfold wFit
 rw [if_neg (by simp [hk]),fitGo_good h1 h2 (fun _ h=>by cases h),if_neg (by simp)]
 rfl
theorem kSort_of {l:List Comp} (h:SortC l):kSort l = l :=
 (kSort_uniq (h.imp fun h=>by omega) (List.Perm.refl _) (h.imp fun h=>by omega)).symm
theorem holds_fit {k:Kind} {v:List Int} (h:holdsOf k v = true):fitOf k v = (v,0):=by
 unfold holdsOf at h
 simp only [Bool.and_eq_true,decide_eq_true_eq] at h
 exact Prod.ext h.2 h.1
theorem fitOf_holds {k:Kind} {v:List Int} (h:(fitOf k v).2 = 0):holdsOf k (fitOf k v).1 = true ∧ (fitOf k v).1 = List.zipWith nearOf k.fields v ∧ v.length = k.fields.length:=by
 unfold fitOf at h ⊢
 split at h
 ·exact absurd h ‹_›
 ·rename_i h1
  have h1:oneErr k = 0:=by simpa using h1
  split at h
  ·cases h
  ·rename_i h2
   have h2:v.length = k.fields.length:=by simpa using h2
   rw [if_neg (by simp [h1]),if_neg (by simp [h2])]
   refine ⟨?_,rfl,h2⟩
   unfold holdsOf
   rw [fitOf_ok h1 (by simp [h2]),near_fits (oneErr_zero h1).2.2]
   simp
theorem wFit_one {ks:List Kind} (hk:checkErr ks = 0) {c:Comp} (h:FitOK ks c):wFit ks [c] = ([fitC ks c],0):=by
 rw [wFit_good hk (fun d hd=>by rw [List.mem_singleton.1 hd];exact h) (List.pairwise_singleton ..)]
 show (kSort [fitC ks c],(0:Int)) = _
 rw [kSort_of (List.pairwise_singleton ..)]
theorem fitC_holds {ks:List Kind} {c:Comp} (h:FitOK ks c):∃ k,ks[(fitC ks c).kind.toNat]? = some k ∧ holdsOf k (fitC ks c).vals = true:=by
 obtain ⟨_,_,k,hk,hf⟩:=h
 refine ⟨k,by rw [fitC_kind];exact hk,?_⟩
 rw [fitC_eq hk]
 exact (fitOf_holds hf).1
def SortI (l:List Item):Prop:=KS (fun it=>it.ent.n) l
theorem findE_at {l:List Item} (h:SortI l) {i:Nat} {it:Item} (hi:l[i]? = some it):findE l it.ent = i:=by
 by_cases hn:findE l it.ent < 0
 ·have:=findE_none hn
  rw [List.find?_eq_none] at this
  exact absurd (by simp) (this it (List.mem_of_getElem? hi))
 ·obtain ⟨n,hn⟩:∃ n:Nat,findE l it.ent = n:=⟨(findE l it.ent).toNat,by omega⟩
  obtain ⟨x,hx,_,e⟩:=findE_some hn
  rw [hn]
  have e2:=ks_uniq h (List.mem_of_getElem? hx) (List.mem_of_getElem? hi) (by rw [e])
  subst e2
  obtain ⟨a,ha⟩:=List.getElem?_eq_some_iff.1 hx
  obtain ⟨b,hb⟩:=List.getElem?_eq_some_iff.1 hi
  have hp:=List.pairwise_iff_getElem.1 h
  rcases Nat.lt_trichotomy n i with q | q | q
  ·have:=hp n i a b q;rw [ha,hb] at this;omega
  ·rw [q]
  ·have:=hp i n b a q;rw [ha,hb] at this;omega
theorem setItem_at {w:Wd} {i:Nat} {it:Item} (hi:w.items[i]? = some it) (cs:List Comp):setItem w i cs = ⟨w.kinds,w.gens,w.items.set i ⟨it.ent,cs⟩⟩:=by
 unfold setItem;rw [hi]
theorem setItem_ok {w:Wd} (h:WdOK w) {i:Nat} {it:Item} (hi:w.items[i]? = some it) {cs:List Comp} (hc:heldOf w.kinds cs = true):WdOK (setItem w i cs):=by
 rw [setItem_at hi]
 obtain ⟨h1,h2⟩:=ks_set (key:=fun it:Item=>it.ent.n) h.so hi (z:=⟨it.ent,cs⟩) rfl
 refine ⟨h.ks,h.gl,by simpa using h.il,h.gs,h1,fun x hx=>?_⟩
 rcases (h2 x).1 hx with rfl | ⟨hx,_⟩
 ·obtain ⟨a,b,c,d,e⟩:=h.it it (List.mem_of_getElem? hi)
  exact ⟨a,b,c,d,hc⟩
 ·exact h.it x hx
theorem putOf_ok {w:Wd} (h:WdOK w) {i:Nat} {it:Item} (hi:w.items[i]? = some it) {c:Comp} (hc:FitOK w.kinds c):putOf w it.ent c = (setItem w i (insC it.comps (fitC w.kinds c)),0):=by
 unfold putOf
 have hf:=findE_at h.so hi
 rw [if_neg (by simp [(wdErr_iff w).2 h]),hf,if_neg (by omega),wFit_one h.ks hc,if_neg (by simp),Int.toNat_natCast,hi]
theorem put_ok {w:Wd} (h:WdOK w) {i:Nat} {it:Item} (hi:w.items[i]? = some it) {c:Comp} (hc:FitOK w.kinds c):WdOK (setItem w i (insC it.comps (fitC w.kinds c))):=by
 obtain ⟨k,hk,hh⟩:=fitC_holds hc
 have hit:=h.it it (List.mem_of_getElem? hi)
 have hcc:=hc
 obtain ⟨a,b,_⟩:=hcc
 exact setItem_ok h hi (held_ins hit.2.2.2.2 (by rw [fitC_kind];exact a) (by rw [fitC_kind];exact b) hk hh)
theorem dropOf_ok {w:Wd} (h:WdOK w) {i:Nat} {it:Item} (hi:w.items[i]? = some it) (k:Int):dropOf w it.ent k = if (compOf it.comps k).isSome then (setItem w i (dropC it.comps k),0) else (⟨[],[],[]⟩,4):=by
 unfold dropOf
 have hf:=findE_at h.so hi
 rw [if_neg (by simp [(wdErr_iff w).2 h]),hf,if_neg (by omega),Int.toNat_natCast,hi]
theorem usedB_no {l:List Item} {n:Int} (h:usedB l n = false):∀ x ∈ l,x.ent.n ≠ n:=by
 unfold usedB at h
 rw [List.any_eq_false] at h
 intro x hx
 simpa using h x hx
theorem free_facts {w:Wd} (hw:WdOK w) (h:(freeOf w).2 = true):(freeOf w).1 ≤ w.gens.length ∧ (∀ x ∈ w.items,x.ent.n ≠ ((freeOf w).1:Nat)) ∧ (freeOf w).1 < 256 ∧ ∀ g,w.gens[(freeOf w).1]? = some g → g < 1073741824:=by
 have hg:=hw.gl
 unfold freeOf at h ⊢
 split at h
 ·rename_i n hn
  unfold freeN at hn
  rw [List.find?_eq_some_iff_getElem] at hn
  obtain ⟨h1,i,h2,h3,h4⟩:=hn
  simp only [List.getElem_range] at h3
  subst h3
  rw [List.length_range] at h2
  simp only [Bool.and_eq_true,Bool.not_eq_true',decide_eq_true_eq] at h1
  refine ⟨by dsimp only;omega,usedB_no h1.1,by dsimp only;omega,fun g hgg=>?_⟩
  dsimp only at hgg
  have:=h1.2
  rw [List.getD_eq_getElem?_getD,hgg] at this
  exact this
 ·have h:w.gens.length < 256:=by dsimp only at h;rw [decide_eq_true_eq] at h;omega
  refine ⟨Nat.le_refl _,fun x hx=>?_,h,fun g hgg=>?_⟩
  ·have:=(hw.it x hx).2.1
   dsimp only
   omega
  ·rw [List.getElem?_eq_none (Nat.le_refl _)] at hgg;cases hgg
theorem insI_mem {it:Item}:∀ {l:List Item} (x:Item),x ∈ insI l it ↔ x = it ∨ x ∈ l
 | [],x=>by simp [insI]
 | y :: l,x=>by
  rw [insI]
  split
  ·rw [List.mem_cons,insI_mem,List.mem_cons]
   constructor
   ·rintro (h | h | h)
    ·exact .inr (.inl h)
    ·exact .inl h
    ·exact .inr (.inr h)
   ·rintro (h | h | h)
    ·exact .inr (.inl h)
    ·exact .inl h
    ·exact .inr (.inr h)
  ·rw [List.mem_cons]
theorem insI_sort {it:Item}:∀ {l:List Item},SortI l → (∀ x ∈ l,x.ent.n ≠ it.ent.n) → SortI (insI l it)
 | [],_,_=>List.pairwise_singleton ..
 | y :: l,h,hn=>by
  obtain ⟨h1,h2⟩:=List.pairwise_cons.1 h
  rw [insI]
  split
  ·rename_i hy
   refine List.pairwise_cons.2 ⟨fun x hx=>?_,insI_sort h2 fun x hx=>hn x (by simp [hx])⟩
   rcases (insI_mem x).1 hx with rfl | hx
   ·exact hy
   ·exact h1 x hx
  ·rename_i hy
   have:=hn y (by simp)
   refine List.pairwise_cons.2 ⟨fun x hx=>?_,h⟩
   show it.ent.n < x.ent.n
   rcases List.mem_cons.1 hx with rfl | hx
   ·omega
   ·have:y.ent.n < x.ent.n:=h1 x hx
    omega
theorem growG_at {gens:List Int} {n:Nat} (h:n ≤ gens.length):n < (growG gens n).length ∧ (growG gens n)[n]? = some ((growG gens n).getD n 0) ∧ gens.length ≤ (growG gens n).length ∧ (∀ j,j < gens.length → (growG gens n)[j]? = gens[j]?) ∧ (∀ g ∈ growG gens n,g ∈ gens ∨ g = 0) ∧ (growG gens n).length ≤ max gens.length (n + 1):=by
 unfold growG
 split
 ·rename_i e
  subst e
  refine ⟨by simp,by simp [List.getD_eq_getElem?_getD],by simp,fun j hj=>List.getElem?_append_left hj,fun g hg=>?_,by simp⟩
  rcases List.mem_append.1 hg with h | h
  ·exact .inl h
  ·exact .inr (List.mem_singleton.1 h)
 ·refine ⟨by omega,?_,Nat.le_refl _,fun _ _=>rfl,fun g hg=>.inl hg,by omega⟩
  rw [List.getD_eq_getElem?_getD,List.getElem?_eq_getElem (by omega)]
  rfl
theorem spawnOf_ok {w:Wd} (h:WdOK w) (hf:(freeOf w).2 = true) {l:List Comp} {cs:List Comp} (hl:wFit w.kinds l = (cs,0)) :
  spawnOf w l = (⟨w.kinds,growG w.gens (freeOf w).1,insI w.items ⟨⟨(freeOf w).1,(growG w.gens (freeOf w).1).getD (freeOf w).1 0⟩,cs⟩⟩,⟨(freeOf w).1,(growG w.gens (freeOf w).1).getD (freeOf w).1 0⟩,0):=by
 unfold spawnOf
 rw [if_neg (by simp [(wdErr_iff w).2 h]),hl,if_neg (by simp),if_neg (by simp [hf])]
theorem spawn_ok {w:Wd} (h:WdOK w) (hf:(freeOf w).2 = true) {cs:List Comp} (hc:heldOf w.kinds cs = true) :
  WdOK ⟨w.kinds,growG w.gens (freeOf w).1,insI w.items ⟨⟨(freeOf w).1,(growG w.gens (freeOf w).1).getD (freeOf w).1 0⟩,cs⟩⟩:=by
 obtain ⟨f1,f2,f3,f4⟩:=free_facts h hf
 obtain ⟨n,hn⟩:∃ n,(freeOf w).1 = n:=⟨_,rfl⟩
 rw [hn] at f1 f2 f3 f4 ⊢
 obtain ⟨g1,g2,g3,g4,g5,g6⟩:=growG_at f1
 have hgs:∀ g ∈ growG w.gens n,0 ≤ g ∧ g ≤ 1073741824:=fun g hg=>by
  rcases g5 g hg with hg | rfl
  ·exact h.gs g hg
  ·omega
 have hso:SortI (insI w.items ⟨⟨n,(growG w.gens n).getD n 0⟩,cs⟩):=insI_sort h.so f2
 have hit:∀ x ∈ insI w.items ⟨⟨n,(growG w.gens n).getD n 0⟩,cs⟩,0 ≤ x.ent.n ∧ x.ent.n < (growG w.gens n).length ∧ (growG w.gens n)[x.ent.n.toNat]? = some x.ent.gen ∧ x.ent.gen ≠ 1073741824 ∧ heldOf w.kinds x.comps = true:=fun x hx=>by
  rcases (insI_mem x).1 hx with rfl | hx
  ·refine ⟨by dsimp only;omega,by dsimp only;omega,by dsimp only;rw [Int.toNat_natCast];exact g2,?_,hc⟩
   dsimp only
   intro e
   rw [e] at g2
   by_cases hnl:n < w.gens.length
   ·rw [g4 n hnl] at g2
    have:=f4 _ g2
    omega
   ·unfold growG at e
    rw [if_pos (by omega),List.getD_eq_getElem?_getD,show n = w.gens.length by omega] at e
    simp at e
  ·obtain ⟨a,b,c,d,e⟩:=h.it x hx
   exact ⟨a,by omega,by rw [g4 _ (by omega)];exact c,d,e⟩
 refine ⟨h.ks,?_,?_,hgs,hso,hit⟩
 ·have:=h.gl
  dsimp only
  omega
 ·exact nodup_le (fun x:Item=>x.ent.n) _ _ (hso.imp fun {a b} h=>by have h:a.ent.n < b.ent.n:=h;show a.ent.n ≠ b.ent.n;omega) fun x hx=>⟨(hit x hx).1,(hit x hx).2.1⟩
theorem killOf_ok {w:Wd} (h:WdOK w) {i:Nat} {it:Item} (hi:w.items[i]? = some it):killOf w it.ent = (⟨w.kinds,w.gens.set it.ent.n.toNat (w.gens.getD it.ent.n.toNat 0 + 1),w.items.eraseIdx i⟩,0):=by
 unfold killOf
 have hf:=findE_at h.so hi
 rw [if_neg (by simp [(wdErr_iff w).2 h]),hf,if_neg (by omega),Int.toNat_natCast]
theorem kill_ok {w:Wd} (h:WdOK w) {i:Nat} {it:Item} (hi:w.items[i]? = some it):WdOK ⟨w.kinds,w.gens.set it.ent.n.toNat (w.gens.getD it.ent.n.toNat 0 + 1),w.items.eraseIdx i⟩:=by
 obtain ⟨h1,h2⟩:=ks_erase (key:=fun x:Item=>x.ent.n) h.so hi
 obtain ⟨a,b,c,d,e⟩:=h.it it (List.mem_of_getElem? hi)
 have hg:=h.gs it.ent.gen (List.mem_of_getElem? c)
 have hgd:w.gens.getD it.ent.n.toNat 0 = it.ent.gen:=by rw [List.getD_eq_getElem?_getD,c];rfl
 refine ⟨h.ks,by simpa using h.gl,?_,fun g hgm=>?_,h1,fun x hx=>?_⟩
 ·have:=h.il
  have:=List.length_eraseIdx_le w.items i
  simp only [List.length_set]
  omega
 ·rcases List.mem_or_eq_of_mem_set hgm with hgm | rfl
  ·exact h.gs g hgm
  ·rw [hgd];omega
 ·obtain ⟨hx,hn⟩:=(h2 x).1 hx
  obtain ⟨a',b',c',d',e'⟩:=h.it x hx
  exact ⟨a',by simpa using b',by rw [List.getElem?_set_ne (by omega)];exact c',d',e'⟩
theorem wFit_sing {ks:List Kind} {c:Comp} (h:(wFit ks [c]).2 = 0):∃ d,(wFit ks [c]).1 = [d] ∧ d.kind = c.kind ∧ 0 ≤ c.kind ∧ c.kind < ks.length:=by
 unfold wFit at h ⊢
 split at h
 ·exact absurd h ‹_›
 ·rename_i h1
  rw [if_neg h1]
  split at h
  ·exact absurd h ‹_›
  ·rename_i h2
   rw [if_neg h2]
   have h2:(fitGo ks [] [] [c]).2 = 0:=by simpa using h2
   rw [fitGo] at h2 ⊢
   split at h2
   ·cases h2
   ·rename_i g1
    rw [if_neg g1]
    rw [if_neg (by simp)] at h2 ⊢
    split at h2
    ·cases h2
    ·rename_i k hk
     split at h2
     ·exact absurd h2 ‹_›
     ·rename_i g3
      (try simp only [hk])
      rw [if_neg g3,fitGo]
      refine ⟨⟨c.kind,(fitOf k c.vals).1⟩,?_,rfl,by omega,by omega⟩
      show kSort [_] = _
      exact kSort_of (List.pairwise_singleton ..)
theorem held_small {ks:List Kind} (hk:checkErr ks = 0) {l:List Comp} (h:heldOf ks l = true):l.length ≤ 16 ∧ ∀ c ∈ l,c.vals.length ≤ 8:=by
 obtain ⟨hs,hm⟩:=held_iff.1 h
 obtain ⟨h16,ho⟩:=checkErr_one hk
 refine ⟨Nat.le_trans (nodup_le Comp.kind _ _ (hs.imp fun h=>by omega) fun c hc=>⟨(hm c hc).1,(hm c hc).2.1⟩) h16,fun c hc=>?_⟩
 obtain ⟨_,_,k,hk2,hh⟩:=hm c hc
 have h8:=(oneErr_zero (ho k (List.mem_of_getElem? hk2))).2.1
 have:=fitOf_holds (k:=k) (v:=c.vals) (by rw [holds_fit hh])
 omega
theorem WdOK.wl {w:Wd} (h:WdOK w):WdL w:=by
 obtain ⟨h16,ho⟩:=checkErr_one h.ks
 refine ⟨⟨by omega,fun k hk=>by have:=(oneErr_zero (ho k hk)).2.1;omega⟩,by have:=h.gl;omega,by have:=h.gl;have:=h.il;omega,fun it hit=>?_⟩
 obtain ⟨h1,h2⟩:=held_small h.ks (h.it it hit).2.2.2.2
 exact ⟨by omega,fun c hc=>by have:=h2 c hc;omega⟩
theorem genKinds_pos (l:List Int):0 < (genKinds l).1.length:=by
 have h:=nextV_range l (n:=4) (by decide)
 have:∀ i c q,(genKindsFrom i c q).1.length = c:=by
  intro i c
  induction c generalizing i with
  | zero=>intro q;rfl
  | succ c ih=>intro q;simp only [genKindsFrom,List.length_cons,ih]
 unfold genKinds
 rw [this]
 omega
theorem insC_at {d:Comp}:∀ {l:List Comp},SortC l → insC l d = if (compOf l d.kind).isSome then l.set (compAt l d.kind) d else l.take (compAt l d.kind) ++ d :: l.drop (compAt l d.kind)
 | [],_=>rfl
 | x :: l,h=>by
  obtain ⟨h1,h2⟩:=List.pairwise_cons.1 h
  have ih:=insC_at (d:=d) h2
  have ec:compOf (x :: l) d.kind = if x.kind = d.kind then some x else compOf l d.kind:=by
   unfold compOf;rw [List.find?_cons];by_cases e:x.kind = d.kind <;> simp [e]
  have ea:compAt (x :: l) d.kind = if x.kind < d.kind then compAt l d.kind + 1 else 0:=by
   unfold compAt;rw [List.takeWhile_cons];by_cases e:x.kind < d.kind <;> simp [e]
  rw [insC,ec,ea]
  by_cases e1:x.kind < d.kind
  ·have e3:¬ x.kind = d.kind:=by omega
   rw [if_pos e1,if_pos e1,if_neg e3,ih]
   split <;> simp
  ·rw [if_neg e1,if_neg e1]
   by_cases e2:x.kind = d.kind
   ·rw [if_pos e2,if_pos e2];rfl
   ·rw [if_neg e2,if_neg e2,compOf_no (fun c hc=>by have:=h1 c hc;omega)];rfl
theorem dropC_at {k:Int}:∀ {l:List Comp},SortC l → (compOf l k).isSome = true → dropC l k = l.eraseIdx (compAt l k)
 | [],_,hn=>by cases hn
 | x :: l,h,hn=>by
  obtain ⟨h1,h2⟩:=List.pairwise_cons.1 h
  have ec:compOf (x :: l) k = if x.kind = k then some x else compOf l k:=by
   unfold compOf;rw [List.find?_cons];by_cases e:x.kind = k <;> simp [e]
  have ea:compAt (x :: l) k = if x.kind < k then compAt l k + 1 else 0:=by
   unfold compAt;rw [List.takeWhile_cons];by_cases e:x.kind < k <;> simp [e]
  have ed:dropC (x :: l) k = if x.kind = k then dropC l k else x :: dropC l k:=by
   unfold dropC;rw [List.filter_cons];by_cases e:x.kind = k <;> simp [e]
  rw [ec] at hn
  rw [ea,ed]
  by_cases e2:x.kind = k
  ·have e3:¬ x.kind < k:=by omega
   rw [if_pos e2,if_neg e3]
   show dropC l k = l
   unfold dropC
   rw [List.filter_eq_self]
   intro c hc
   have:=h1 c hc
   simp;omega
  ·rw [if_neg e2] at hn
   by_cases e1:x.kind < k
   ·rw [if_neg e2,if_pos e1,dropC_at h2 hn];rfl
   ·rw [compOf_no (fun c hc=>by have:=h1 c hc;omega)] at hn;cases hn
end
theorem W.makeMap {P:Program} {ty t k e:TypeId} {pos:String} {after:Array Edge} {dst:Option Tmp} {c:Option (List Bool)} {g:Option (Nat × Bool)} {T:List (Nat × AV)} {S:List Slot} {X p:Nat} {z0:Value} [TMap P t k e z0] (hS:At S p (X,.gone)):Stp c P ⟨dst,.makeMap t none,ty,pos,after,g⟩ T S [] [(p,(X,.gone))] (.mp X) [(p,(X,.ob (MapF P k e (fun _=>none) 0)))]:=⟨.makeMap (TMap.h (z0:=z0)),.nil,.cons hS .nil⟩
theorem ArOK.keys_items {a:Ar} (h:ArOK a):tKeys a.ts = (arItems a.ts).map (·.ent.n):=by
 rw [tKeys,arItems,List.map_flatMap]
 have:∀ ts:List Tab,(∀ t ∈ ts,∀ e ∈ t.es,e.1 = e.2.n) → (ts.flatMap fun t=>keysC t.es) = ts.flatMap fun t=>(tItems t).map (·.ent.n):=by
  intro ts
  induction ts with
  | nil=>intro _;rfl
  | cons t ts ih =>
   intro hh
   rw [List.flatMap_cons,List.flatMap_cons,ih fun u hu=>hh u (by simp [hu])]
   congr 1
   rw [tItems,List.map_map]
   exact List.map_congr_left fun e he=>hh t (by simp) e he
 exact this a.ts h.ent
theorem WdOK.cl {w:Wd} (h:WdOK w):∀ it ∈ w.items,it.comps.length ≤ 16:=fun it hi=>by
 obtain ⟨_,_,_,_,e⟩:=h.it it hi
 obtain ⟨h1,h2⟩:=held_iff.1 e
 have h16:=(checkErr_one h.ks).1
 have:=nodup_le (fun c:Comp=>c.kind) w.kinds.length it.comps (h1.imp fun {a b} hab e=>by omega) (fun c hc=>⟨(h2 c hc).1,(h2 c hc).2.1⟩)
 omega
set_option maxRecDepth 8000 in
set_option maxHeartbeats 4000000 in
theorem of_sp (w:Wd) (hw:WdOK w):Spec Tryz.prog 17 [wdA false w] [] fun r S'=>∃ b:Ar,(ArOK b ∧ ArNE b.ts ∧ b.kinds = w.kinds ∧ b.gens = w.gens ∧ (arItems b.ts).Perm w.items) ∧ r = .tup [.ptr b.A 0 0,iA 0] ∧ S' = arS b:=by
 have hL:=hw.wl
 have hgl:=hw.gl
 have hil:=hw.il
 have hsok:=hw.so
 have hit:=hw.it
 have hkp:=kindCopy_ps w.kinds (by have:=(checkErr_one hw.ks).1;omega) (fun k hk=>by have:=(oneErr_zero ((checkErr_one hw.ks).2 k hk)).2.1;omega)
 have hcl:=cloneI_ps w.gens (by omega)
 have hck:=check_ps' w (by omega) (by omega) (fun it hi=>(hL.items.2 it hi).1)
 rw [(wdErr_iff w).2 hw] at hck
 have hcc:=hw.cl
 have hcp:∀ it ∈ w.items,PS Tryz.prog 38 [compsA false false it.comps] (compsA true false it.comps):=fun it hi=>copyComps_ps it.comps (hL.items.2 it hi).1 (hL.items.2 it hi).2
 have hime:(w.items.map (itemA false)).length = w.items.length:=List.length_map _
 obtain ⟨ks,gs,its⟩:=w
 dsimp only at *
 refine Spec.of (nt:=38) (res:=[.tmp 2,.tmp 3]) Tryz.func17 rfl (by kernel_rfl) rfl rfl rfl fun Sf=>?_
 (repeat refine WF ?_);refine AWP.region ?_;(repeat (first | refine WO ?_ | refine All.i fun D=>?_ | refine AllY.i fun Y=>?_));refine AOps.nil ?_;(repeat refine WN ?_)
 (repeat first | refine AOps.nil ?_ | refine WF ?_)
 (repeat refine WF ?_);refine AWP.region ?_;(repeat (first | (refine AOps.gN ?_;first | (refine AOps.g_callf ?_;first | refine AOps.c1 (h:=(hck ..)) (k:=?_))) | refine WO ?_ | refine All.i fun X=>?_ | refine AllY.i fun Y=>?_));refine AOps.nil ?_;(repeat refine WN ?_)
 (repeat first | refine AOps.nil ?_ | refine WF ?_)
 (repeat refine WF ?_);refine AWP.region ?_;(repeat (first | refine WO ?_ | refine All.i fun X=>?_ | refine AllY.i fun Y=>?_));refine AOps.nil ?_;(repeat refine WN ?_)
 (repeat first | refine AOps.nil ?_ | refine WF ?_)
 refine AWP.cond_f rfl rfl ?_
 (repeat first | refine AOps.nil ?_ | refine WF ?_)
 have hgm:(gs.map iA).length = gs.length:=List.length_map _
 refine AWP.rs fun A=>AWP.rs fun G=>AWP.rs fun O=>?_
 (repeat refine WF ?_);refine AWP.region_run (by kernel_rfl) (by kernel_rfl) ?_;(repeat (first | (refine RGo.gN ?_;first | (refine RGo.g_callf ?_;first | refine RGo.c1 (h:=(hkp ..)) (k:=?_) | refine RGo.z1 (h:=hcl) (hT:=.ls (Y:=G)) (k:=?_)) | refine RGo.goS (h:=W.makeMap (X:=O) (by exact At.f)) (k:=?_) | refine RGo.goS (h:=W.box (X:=A) rfl (by exact At.f) rfl) (k:=?_)) | (refine RGo.gQ ?_;first | (refine RGo.g_callf ?_;first | refine RGo.c1 (h:=(hkp ..)) (k:=?_) | refine RGo.z1 (h:=hcl) (hT:=.ls (Y:=G)) (k:=?_)) | refine RGo.goS (h:=W.makeMap (X:=O) (by exact At.f)) (k:=?_) | refine RGo.goS (h:=W.box (X:=A) rfl (by exact At.f) rfl) (k:=?_)) | refine RK ?_ | refine RGo.nil (by kernel_rfl) ?_))
 (repeat first | refine AOps.nil ?_ | refine WF ?_)
 refine AWP.adoptIn (Y:=A) 109 1 (by exact At.f) (fun Tb=>.cons (.agg (.cons .same (.cons .same (.cons (.base .nil) (.cons .same .nil))))) .nil) fun Tb=>?_
 rw [hgm]
 refine AWP.note (fun _ _=>False) (fun _ _ h=>h) fun Tv=>?_
 (repeat refine WF ?_);refine AWP.region ?_;(repeat (first | refine WO ?_ | refine All.i fun X=>?_ | refine AllY.i fun Y=>?_));refine AOps.nil ?_;(repeat refine WN ?_)
 (repeat first | refine AOps.nil ?_ | refine WF ?_)
 refine AWP.front Tb ?_;refine AWP.front Tv ?_;refine AWP.front O ?_;refine AWP.front G ?_;refine AWP.front A ?_;refine AWP.front D ?_
 refine AWP.lp2 (fun (i:Nat) (b:Ar)=>⟨[(5,.ptr A 0 0),(23,itemsA false false its),(24,iA (its.map (itemA false)).length),(25,iA i)],(D,.row 26 3 [wdA false ⟨ks,gs,its⟩]) :: (arS b ++ Sf)⟩) (fun i b=>i ≤ its.length ∧ ArOK b ∧ ArNE b.ts ∧ b.A = A ∧ b.kinds = ks ∧ b.gens = gs ∧ (arItems b.ts).Perm (its.take i)) (fun i _=>its.length - i) 0 ⟨A,G,Tb,O,Tv,fun _ _=>False,fun _=>none,0,ks,gs,[]⟩ ⟨by omega,⟨by simp,.nil,.nil,by simp,by simp,by simp,rfl⟩,(by intro t ht;cases ht),rfl,rfl,rfl,.refl _⟩ ?_
 rintro i b ⟨hi,hok,hne,hA,hbk,hbg,hpm⟩
 subst hA
 (repeat refine WF ?_);refine AWP.region ?_;(repeat (first | refine WO ?_ | refine All.i fun X=>?_ | refine AllY.i fun Y=>?_));refine AOps.nil ?_;(repeat refine WN ?_)
 (repeat first | refine AOps.nil ?_ | refine WF ?_)
 refine AWP.cond rfl (fun h=>?_) (fun h=>?_)
 ·have h:i < its.length:=by rw [decide_eq_true_eq,hime] at h;omega
  have hat:(its.map (itemA false))[i]? = some (itemA false its[i]):=map_at _ h
  have hil:i < (its.map (itemA false)).length:=by omega
  have him:=List.getElem_mem h
  obtain ⟨it1,it2,_⟩:=hit _ him
  have hcpi:=hcp _ him
  have hfr:its[i].ent.n ∉ tKeys b.ts:=by
   rw [hok.keys_items]
   intro hm
   obtain ⟨x,hx,e⟩:=List.mem_map.1 hm
   have hx:=hpm.mem_iff.1 hx
   obtain ⟨j,hj,rfl⟩:=List.mem_take_iff_getElem.1 hx
   have:=List.pairwise_iff_getElem.1 hsok j i (by omega) h (by omega)
   omega
  have had:=add_sp b its[i].ent its[i].comps hok hne ⟨it1,by omega⟩ hfr (hcc _ him)
  have htk:its.take (i + 1) = its.take i ++ [its[i]]:=List.take_succ_eq_append_getElem h
  obtain ⟨⟨ie,ic⟩,hie⟩:∃ it,its[i] = it:=⟨_,rfl⟩
  rw [hie] at hat hcpi had htk
  (repeat first | refine AOps.nil ?_ | refine WF ?_)
  (repeat refine WF ?_);refine AWP.region ?_;(repeat (first | refine WO ?_ | refine All.i fun C=>?_ | refine AllY.i fun Y=>?_));refine AOps.nil ?_;(repeat refine WN ?_)
  (repeat first | refine AOps.nil ?_ | refine WF ?_)
  (repeat refine WF ?_);refine AWP.region_tail 6 (by kernel_rfl) (by kernel_rfl) (by kernel_rfl) ?_;dsimp only [List.take,List.drop];(repeat (first | (refine RGo.gN ?_;first | (refine RGo.g_callf ?_;first | refine RGo.c1 (h:=(hcpi ..)) (k:=?_))) | (refine RGo.gQ ?_;first | (refine RGo.g_callf ?_;first | refine RGo.c1 (h:=(hcpi ..)) (k:=?_))) | refine RK ?_ | refine RGo.nil (by kernel_rfl) ?_))
  refine AOps.p3 [_,_] (h:=had) fun b' hb'=>?_
  obtain ⟨k1,k2,k3,k4,k5,k6⟩:=hb'
  refine AOps.nil ?_
  (repeat first | refine AOps.nil ?_ | refine WF ?_)
  (repeat refine WF ?_);refine AWP.region ?_;(repeat (first | refine WO ?_ | refine All.i fun X=>?_ | refine AllY.i fun Y=>?_));refine AOps.nil ?_;(repeat refine WN ?_)
  exact lp_next2 (i + 1) b' ⟨by omega,k1,k2,k3,k4.trans hbk,k5.trans hbg,by
   rw [htk]
   exact k6.trans ((hpm.cons _).trans (List.perm_append_singleton _ _).symm)⟩ (by omega)
 ·have h:i = its.length:=by rw [decide_eq_false_iff_not,hime] at h;omega
  subst h
  rw [List.take_length] at hpm
  (repeat first | refine AOps.nil ?_ | refine WF ?_)
  (repeat refine WF ?_);refine AWP.region ?_;(repeat (first | refine WO ?_ | refine All.i fun X=>?_ | refine AllY.i fun Y=>?_));refine AOps.nil ?_;(repeat refine WN ?_)
  (refine AWP.ret ?_;(repeat (first | refine inB_r ?_ | refine andThen_r ?_));refine retQ_r ?_)
  exact Ends.sp [.ptr b.A 0 0,iA 0] (arS b) ⟨b,⟨hok,hne,hbk,hbg,hpm⟩,rfl,rfl⟩
theorem dropK_no (a:Ar) (ha:ArOK a) (e:Ent) (k:Int) (hn:I64 e.n) (hh:hasA a e = false):Spec Tryz.prog 132 [.ptr a.A 0 0,entA e,iA k] (arS a) fun r S'=>r = iA 4 ∧ S' = arS a:=by
 have hs:=has_sp a ha e hn
 rw [hh] at hs
 refine Spec.of (nt:=41) (res:=[.tmp 6]) Tryz.func132 rfl (by kernel_rfl) rfl rfl rfl fun Sf=>?_
 (repeat refine WF ?_);refine AWP.region ?_;(repeat (first | refine WO ?_ | refine All.i fun B=>?_ | refine AllY.i fun Y=>?_));refine AOps.nil ?_;(repeat refine WN ?_)
 (repeat first | refine AOps.nil ?_ | refine WF ?_)
 (repeat refine WF ?_);refine AWP.region ?_;(repeat (first | (refine AOps.gN ?_;first | refine AOps.u2 [_] (h:=hs) (k:=?_)) | refine WO ?_ | refine All.i fun X=>?_ | refine AllY.i fun Y=>?_));refine AOps.nil ?_;(repeat refine WN ?_)
 refine AWP.cond_t rfl rfl ?_
 (repeat first | refine AOps.nil ?_ | refine WF ?_)
 (repeat refine WF ?_);refine AWP.region ?_;(repeat (first | refine WO ?_ | refine All.i fun X=>?_ | refine AllY.i fun Y=>?_));refine AOps.nil ?_;(repeat refine WN ?_)
 (refine AWP.ret ?_;(repeat (first | refine inB_r ?_ | refine andThen_r ?_));refine retQ_r ?_)
 exact Ends.sp [iA 4] (arS a) ⟨rfl,rfl⟩
theorem ArOK.ptr {a:Ar} (h:ArOK a) {t:Tab} (ht:t ∈ a.ts) {n:Int} (hn:n ∈ keysC t.es):∃ u,(a.g n).getD (.pointer none) = u ∧ u.oneCell' = true ∧ a.K (.ptr t.X 0 0) u:=by
 have hsm:=h.gn n (List.mem_flatMap.2 ⟨t,ht,hn⟩)
 obtain ⟨u,hu⟩:∃ u,a.g n = some u:=Option.isSome_iff_exists.1 hsm
 obtain ⟨w,hw,hwn,hK,b,hb⟩:=h.g n u hu
 have:=h.uniq hw ht hwn hn
 subst this
 exact ⟨u,by rw [hu];rfl,by rw [hb];rfl,hK⟩
theorem fresh_less {a b:Ar} (ha:ArOK a) (hb:ArOK b) {e:Ent} {l:List Comp} (hit:(arItems a.ts).Perm (⟨e,l⟩ :: arItems b.ts)):e.n ∉ tKeys b.ts:=by
 have h1:=ha.keys
 rw [ha.keys_items] at h1
 have h2:=(hit.map fun it:Item=>it.ent.n).nodup_iff.1 h1
 rw [hb.keys_items]
 exact (List.nodup_cons.1 h2).1
theorem lowI_mem {l:List Int} {k:Int} (hs:l.Pairwise (· < ·)) (h:k ∈ l):∃ hl:lowI l k < l.length,l[lowI l k] = k:=by
 obtain ⟨i,hi,rfl⟩:=List.mem_iff_getElem.1 h
 have hsp:=List.pairwise_iff_getElem.1 hs
 have e:=lowI_at (l:=l) (n:=l[i]) (i:=i) (by omega) (fun j hj hlt=>hsp j i hj hi hlt) (fun j hj hle=>by
  rcases Nat.lt_or_eq_of_le hle with h | rfl
  ·have:=hsp i j hi hj h;omega
  ·exact Int.le_refl _)
 exact ⟨by rw [e];exact hi,by simp only [e]⟩
structure SwapR (a:Ar) (e:Ent) (l l':List Comp) (b:Ar):Prop where
 ok:ArOK b
 ne:ArNE b.ts
 A:b.A = a.A
 kinds:b.kinds = a.kinds
 gens:b.gens = a.gens
 items:∃ r,(arItems a.ts).Perm (⟨e,l⟩ :: r) ∧ (arItems b.ts).Perm (⟨e,l'⟩ :: r)
set_option maxRecDepth 8000 in
theorem dropK_yes (a:Ar) (ha:ArOK a) (hne:ArNE a.ts) (e:Ent) (k:Int) (hn:I64 e.n) (hkl:I64 k) (hh:hasA a e = true) {l1 l2:List Tab} {t:Tab} (hts:a.ts = l1 ++ t :: l2) (hm:(e.n,e) ∈ t.es) (hks:t.ks.Pairwise (· < ·)):Spec Tryz.prog 132 [.ptr a.A 0 0,entA e,iA k] (arS a) fun r S'=>∃ b:Ar,(if k ∈ t.ks then SwapR a e (tComps t e.n) ((tComps t e.n).eraseIdx (lowI t.ks k)) b else b = a) ∧ r = iA (if k ∈ t.ks then 0 else 4) ∧ S' = arS b:=by
 have htm:t ∈ a.ts:=by rw [hts];simp
 have hto:=ha.tab t htm
 have hnk:e.n ∈ keysC t.es:=List.mem_map.2 ⟨_,hm,rfl⟩
 have hnl:=hto.es.lt _ hnk
 have hs:=has_sp a ha e hn
 rw [hh] at hs
 have hbs:=binS_ps t.ks k hks (by have:=hto.ks;omega)
 obtain ⟨u,hgd,hone,hK⟩:=ha.ptr htm hnk
 refine Spec.of (nt:=41) (res:=[.tmp 6]) Tryz.func132 rfl (by kernel_rfl) rfl rfl rfl fun Sf=>?_
 (repeat refine WF ?_);refine AWP.region ?_;(repeat (first | refine WO ?_ | refine All.i fun B=>?_ | refine AllY.i fun Y=>?_));refine AOps.nil ?_;(repeat refine WN ?_)
 (repeat first | refine AOps.nil ?_ | refine WF ?_)
 (repeat refine WF ?_);refine AWP.region ?_;(repeat (first | (refine AOps.gN ?_;first | refine AOps.u2 [_] (h:=hs) (k:=?_)) | refine WO ?_ | refine All.i fun X=>?_ | refine AllY.i fun Y=>?_));refine AOps.nil ?_;(repeat refine WN ?_)
 refine AWP.cond_f rfl rfl ?_
 (repeat first | refine AOps.nil ?_ | refine WF ?_)
 refine AWP.perm (List.Perm.cons _ (ar_front hts Sf)) ?_
 (repeat refine WF ?_);refine AWP.region_run (by kernel_rfl) (by kernel_rfl) ?_;(repeat (first | (refine RGo.gN ?_;first | (refine RGo.g_callf ?_;first | refine RGo.c2 (h:=(hbs ..)) (k:=?_)) | refine RGo.go (h:=W.lookP (.ptr t.X 0 0) hgd hn hone hK rfl rfl (by exact At.f) (by exact At.f)) (k:=?_)) | (refine RGo.gQ ?_;first | (refine RGo.g_callf ?_;first | refine RGo.c2 (h:=(hbs ..)) (k:=?_)) | refine RGo.go (h:=W.lookP (.ptr t.X 0 0) hgd hn hone hK rfl rfl (by exact At.f) (by exact At.f)) (k:=?_)) | refine RK ?_ | refine RGo.nil (by kernel_rfl) ?_))
 by_cases hk:k ∈ t.ks
 ·rw [decide_eq_true hk]
  simp only [if_pos hk]
  (repeat first | refine AOps.nil ?_ | refine WF ?_)
  (repeat refine WF ?_);refine AWP.region ?_;(repeat (first | refine WO ?_ | refine All.i fun X=>?_ | refine AllY.i fun Y=>?_));refine AOps.nil ?_;(repeat refine WN ?_)
  refine AWP.cond_f rfl rfl ?_
  (repeat first | refine AOps.nil ?_ | refine WF ?_)
  refine AWP.perm (List.Perm.cons _ (ar_front hts Sf).symm) ?_
  (repeat refine WF ?_)
  have htk:=take_sp a ha hne hts hnk
  obtain ⟨i,hi⟩:∃ i,lowI t.ks k = i:=⟨_,rfl⟩
  rw [hi]
  obtain ⟨hil,hik⟩:=lowI_mem hks hk
  rw [hi] at hil
  have htl:(tComps t e.n).length = t.ks.length:=by unfold tComps;rw [List.length_map,List.length_zip];have:=hto.len;omega
  have h16:=hto.ks
  refine AWP.region_runH (n:=1) [(B,.row 32 2 [entA e])] (arS a ++ Sf) rfl (by kernel_rfl) (by kernel_rfl) ?_
  refine RGoH.go ?_
  refine RGoH.go ?_
  refine RGoH.go ?_
  refine RGoH.go ?_
  refine RGoH.go ?_
  refine RGoH.skip [32,34] ?_
  refine RGoH.go ?_
  refine RGoH.go ?_
  refine RGoH.go (h:=W.addE ((i:Int) + 1) (by omega) (by omega) rfl rfl) ?_
  refine RGoH.skip [35,36,38] ?_
  refine RGoH.skip [30,31,39] ?_
  refine RGoH.nil (by kernel_rfl) (by kernel_rfl) (by kernel_rfl) ?_
  refine HC.step [(32,.ptr a.A 0 0),(34,iA e.n)] ⟨rfl,rfl,rfl,rfl,trivial⟩ fun T F=>?_
  refine AOps.pt2 F (h:=htk) (k:=fun Y _ K=>?_)
  obtain ⟨hok,hne2,hA,hki,hge,hit⟩:=lessA_ok ha hne hts hm Y
  obtain ⟨b,hb⟩:∃ b,lessA a l1 l2 t e.n Y = b:=⟨_,rfl⟩
  rw [hb] at hok hne2 hA hki hge hit ⊢
  refine AOps.perm List.perm_middle.symm ?_
  refine AOps.nil ⟨rfl,_,_,⟨fun d v h=>h,.refl _⟩,?_⟩
  have hdl:=deleteC_sp K (tComps t e.n).length i ((tComps t e.n).map (compA false)) (List.length_map _).symm (by omega) (by omega) (comps_free _) (comps_wid _)
  rw [← map_erase] at hdl
  refine HC.step [(35,.sl K 0 ((tComps t e.n).map (compA false)).length),(36,iA i),(38,iA ((i:Int) + 1))] ⟨rfl,rfl,rfl,rfl,rfl,rfl,trivial⟩ fun T2 F2=>?_
  rw [List.length_map]
  refine AOps.u3 F2 (h:=hdl) (k:=?_) (R:=arS b ++ Sf)
  refine AOps.nil ⟨rfl,_,_,⟨fun d v h=>h,.refl _⟩,?_⟩
  rw [← hA]
  refine HC.step [(30,.ptr b.A 0 0),(31,entA e),(39,compsA false false ((tComps t e.n).eraseIdx i))] ⟨rfl,rfl,rfl,rfl,rfl,rfl,trivial⟩ fun T3 F3=>?_
  have had:=add_sp b e ((tComps t e.n).eraseIdx i) hok hne2 hnl (fresh_less ha hok hit) (by rw [List.length_eraseIdx];split <;> omega)
  refine AOps.p3 F3 (h:=had) (k:=fun b2 hb2=>?_)
  refine AOps.nil ⟨rfl,_,_,⟨fun d v h=>h,.refl _⟩,?_⟩
  show andThen _ _ _ _
  (repeat first | refine AOps.nil ?_ | refine WF ?_)
  (repeat refine WF ?_);refine AWP.region ?_;(repeat (first | refine WO ?_ | refine All.i fun X=>?_ | refine AllY.i fun Y=>?_));refine AOps.nil ?_;(repeat refine WN ?_)
  (refine AWP.ret ?_;(repeat (first | refine inB_r ?_ | refine andThen_r ?_));refine retQ_r ?_)
  obtain ⟨g1,g2,g3,g4,g5,g6⟩:=hb2
  exact Ends.sp [iA 0] (arS b2) ⟨b2,⟨g1,g2,g3.trans hA,g4.trans hki,g5.trans hge,_,hit,g6⟩,rfl,rfl⟩
 ·rw [decide_eq_false hk]
  simp only [if_neg hk]
  (repeat first | refine AOps.nil ?_ | refine WF ?_)
  (repeat refine WF ?_);refine AWP.region ?_;(repeat (first | refine WO ?_ | refine All.i fun X=>?_ | refine AllY.i fun Y=>?_));refine AOps.nil ?_;(repeat refine WN ?_)
  refine AWP.cond_t rfl rfl ?_
  (repeat first | refine AOps.nil ?_ | refine WF ?_)
  refine AWP.perm (List.Perm.cons _ (ar_front hts Sf).symm) ?_
  (repeat refine WF ?_);refine AWP.region ?_;(repeat (first | refine WO ?_ | refine All.i fun X=>?_ | refine AllY.i fun Y=>?_));refine AOps.nil ?_;(repeat refine WN ?_)
  (refine AWP.ret ?_;(repeat (first | refine inB_r ?_ | refine andThen_r ?_));refine retQ_r ?_)
  exact Ends.sp [iA 4] (arS a) ⟨a,rfl,rfl,rfl⟩
section
open Go.Sort
theorem arr_at {α:Type} [Inhabited α] (f:α → AV) {d:Array α} {i:Nat} (h:i < d.size):(d.toList.map f)[i]? = some (f d[i]!):=by
 rw [List.getElem?_map,List.getElem?_eq_getElem (by simpa using h)]
 simp [getElem!_pos d i h]
theorem arr_swp {α:Type} [Inhabited α] (f:α → AV) {d:Array α} {i j:Nat} (hi:i < d.size) (hj:j < d.size):((d.toList.map f).set i (f d[j]!)).set j (f d[i]!) = (swp d i j).toList.map f:=by
 unfold swp
 simp [Array.toList_setIfInBounds,List.map_set]
theorem arr_set2 {α:Type} [Inhabited α] (f:α → AV) {d:Array α} {i j:Nat} (hj:j < d.size) (x:α):∃ y,((d.toList.map f).set i (f x))[j]? = some (f y):=by
 by_cases e:i = j
 ·subst e;exact ⟨x,List.getElem?_set_self (by simpa using hj)⟩
 ·exact ⟨d[j]!,by rw [List.getElem?_set_ne e];exact arr_at f hj⟩
def ltOf {α:Type} (cf:α → α → Int) (x y:α):Bool:=decide (cf x y < 0)
instance:Inhabited Comp:=⟨⟨0,[]⟩⟩
instance:Inhabited Item:=⟨⟨⟨0,0⟩,[]⟩⟩
theorem order2_le {α:Type} [Inhabited α] (lt:α → α → Bool) (d:Array α) (a b s:Nat):(order2 lt d a b s).2.2 ≤ s + 1:=by
 unfold order2;split <;> simp
theorem order2_lt {α:Type} [Inhabited α] (lt:α → α → Bool) (d:Array α) (a b s m:Nat) (ha:a < m) (hb:b < m):(order2 lt d a b s).1 < m ∧ (order2 lt d a b s).2.1 < m:=by
 unfold order2;split <;> exact ⟨by assumption,by assumption⟩
theorem median_le {α:Type} [Inhabited α] (lt:α → α → Bool) (d:Array α) (a b c s:Nat):(median lt d a b c s).2 ≤ s + 3:=by
 have e1:=order2_le lt d a b s
 have e2:=order2_le lt d (order2 lt d a b s).2.1 c (order2 lt d a b s).2.2
 have e3:=order2_le lt d (order2 lt d a b s).1 (order2 lt d (order2 lt d a b s).2.1 c (order2 lt d a b s).2.2).1 (order2 lt d (order2 lt d a b s).2.1 c (order2 lt d a b s).2.2).2.2
 unfold median
 dsimp only
 omega
theorem medAdj_lt {α:Type} [Inhabited α] (lt:α → α → Bool) (d:Array α) (a s m:Nat) (h:a + 1 < m):(medianAdjacent lt d a s).1 < m:=by
 rcases medianAdjacent_mem lt d a s with e | e | e <;> omega
def hintN:Hint → Int
 | .unknown=>0
 | .increasing=>1
 | .decreasing=>2
end
section
open Go.Sort
set_option maxHeartbeats 1000000 in
theorem insC_po (f:FuncId) (cap:List AV) (cf:Comp → Comp → Int) (hst:st1s cap = true) (hcf:∀ x y,PS Tryz.prog f ((compA false) x :: (compA false) y :: cap) (iA (cf x y))) (X n:Nat) (d:Array Comp) (a b:Nat) (hn:n = d.size) (hab:a ≤ b) (hb:b ≤ d.size) (hz:d.size ≤ 1099511627776):PO Tryz.prog 138 [.sl X 0 n,iA a,iA b,.fn f cap] X (.row 42 2 (d.toList.map (compA false))) (.tup []) (.row 42 2 ((insertionSort (ltOf cf) d a b).toList.map (compA false))):=by
 obtain ⟨r,hr⟩:∃ r,insertionSort (ltOf cf) d a b = r:=⟨_,rfl⟩
 rw [hr]
 unfold insertionSort at hr
 refine Spec.of (nt:=53) (res:=[]) Tryz.func138 rfl (by kernel_rfl) rfl rfl rfl fun Sf=>?_
 (repeat (first | refine WK ?_ | refine All.i fun X=>?_ | refine AllY.i fun Y=>?_))
 refine AWP.lp2 (fun (i:Nat) (e:Array Comp)=>⟨[(0,.sl X 0 n),(1,iA a),(2,iA b),(3,.fn f cap),(8,iA i)],(X,.row 42 2 (e.toList.map (compA false))) :: Sf⟩) (fun i e=>i ≤ max b (a + 1) ∧ a < i ∧ e.size = d.size ∧ insOuter (ltOf cf) a b i e = r) (fun i _=>b - i) (a + 1) d ⟨by omega,by omega,rfl,hr⟩ ?_
 rintro i e ⟨hi,hai,he,hfold⟩
 rw [insOuter] at hfold
 (repeat (first | refine WK ?_ | refine All.i fun X=>?_ | refine AllY.i fun Y=>?_))
 refine AWP.cond rfl (fun hc=>?_) (fun hc=>?_)
 ·have h:i < b:=by have:=of_decide_eq_true hc;omega
  rw [if_pos h] at hfold
  (repeat (first | refine WK ?_ | refine All.i fun X=>?_ | refine AllY.i fun Y=>?_))
  refine AWP.lp2 (fun (j:Nat) (u:Array Comp)=>⟨[(0,.sl X 0 n),(1,iA a),(2,iA b),(3,.fn f cap),(8,iA i),(9,iA j)],(X,.row 42 2 (u.toList.map (compA false))) :: Sf⟩) (fun j u=>j ≤ i ∧ u.size = d.size ∧ insInner (ltOf cf) a j u = insInner (ltOf cf) a i e) (fun j _=>j) i e ⟨Nat.le_refl _,he,rfl⟩ ?_
  rintro j u ⟨hj,hu,hin⟩
  rcases Bool.eq_false_or_eq_true (decide ((a:Int) < (j:Int))) with g | g
  ·have hja:a < j:=by have:=of_decide_eq_true g;omega
   obtain ⟨q,rfl⟩:∃ q,j = q + 1:=⟨j - 1,by omega⟩
   have h1:=arr_at (compA false) (d:=u) (i:=q + 1) (by omega)
   have h2:=arr_at (compA false) (d:=u) (i:=q) (by omega)
   have hl:=hcf (u[q + 1]!) (u[q]!)
   rw [insInner] at hin
   (repeat refine WF ?_)
   (repeat refine WF ?_);refine AWP.region_run (by kernel_rfl) (by kernel_rfl) ?_;(repeat (first | (refine RGo.gN ?_;first | (refine RGo.g_callv ?_;first | refine RGo.k2 (h:=(hl ..)) (k:=?_)) | refine RGo.go (h:=W.subE (q:Int) (by omega) (by omega) rfl rfl) (k:=?_)) | (refine RGo.gQ ?_;first | (refine RGo.g_callv ?_;first | refine RGo.k2 (h:=(hl ..)) (k:=?_)) | refine RGo.go (h:=W.subE (q:Int) (by omega) (by omega) rfl rfl) (k:=?_)) | refine RK ?_ | refine RGo.nil (by kernel_rfl) ?_))
   (repeat refine WF ?_)
   refine AWP.cond rfl (fun hd=>?_) (fun hd=>?_)
   ·have hd:(ltOf cf) u[q + 1]! u[q]! = true:=by simpa [g,ltOf] using hd
    rw [hd,if_pos (by simp;omega)] at hin
    obtain ⟨y,hy⟩:=arr_set2 (compA false) (d:=u) (i:=q + 1) (j:=q) (by omega) u[q]!
    (repeat refine WF ?_)
    (repeat refine WF ?_);refine AWP.region_run (by kernel_rfl) (by kernel_rfl) ?_;(repeat (first | (refine RGo.gN ?_;first | refine RGo.go (h:=W.subE (q:Int) (by omega) (by omega) rfl rfl) (k:=?_) | refine RGo.s (W.store rfl rfl (by exact At.f) hy (by exact rfl)) rfl ?_) | (refine RGo.gQ ?_;first | refine RGo.go (h:=W.subE (q:Int) (by omega) (by omega) rfl rfl) (k:=?_) | refine RGo.s (W.store rfl rfl (by exact At.f) hy (by exact rfl)) rfl ?_) | refine RK ?_ | refine RGo.nil (by kernel_rfl) ?_))
    (repeat (first | (refine AOps.gN ?_;first | refine AOps.p (W.subE (q:Int) (by omega) (by omega) rfl rfl) rfl ?_) | refine WK ?_ | refine All.i fun X=>?_ | refine AllY.i fun Y=>?_))
    refine lp_next2 q (swp u (q + 1) q) ⟨by omega,by rw [size_swp];exact hu,hin⟩ (h0:=by rw [← arr_swp (compA false) (by omega) (by omega)];exact ⟨by exact Lk.f,by exact Sub.f⟩)
   ·have hd:(ltOf cf) u[q + 1]! u[q]! = false:=by simpa [g,ltOf] using hd
    rw [hd,if_neg (by simp)] at hin
    (repeat (first | refine WK ?_ | refine All.i fun X=>?_ | refine AllY.i fun Y=>?_))
    refine lp_next2 (i + 1) u ⟨by omega,by omega,hu,by rw [hin];exact hfold⟩
  ·have hja:j ≤ a:=by have:=of_decide_eq_false g;omega
   have hin2:insInner (ltOf cf) a j u = u:=by
    cases j with
    | zero=>rfl
    | succ q=>rw [insInner,if_neg (by simp;omega)]
   rw [hin2] at hin
   (repeat refine WF ?_)
   (repeat refine WF ?_);refine AWP.region_run (by kernel_rfl) (by kernel_rfl) ?_;(repeat (first | refine RK ?_ | refine RGo.nil (by kernel_rfl) ?_))
   (repeat refine WF ?_)
   refine AWP.cond_f rfl (by simp [g]) ?_
   (repeat (first | refine WK ?_ | refine All.i fun X=>?_ | refine AllY.i fun Y=>?_))
   refine lp_next2 (i + 1) u ⟨by omega,by omega,hu,by rw [hin];exact hfold⟩
 ·have h:¬ i < b:=by have:=of_decide_eq_false hc;omega
  rw [if_neg h] at hfold
  subst hfold
  (repeat (first | refine WK ?_ | refine All.i fun X=>?_ | refine AllY.i fun Y=>?_))
  refine retQ_n ?_
  exact Ends.void [(X,.row 42 2 (e.toList.map (compA false)))] ⟨rfl,rfl⟩
end
section
open Go.Sort
def lenTab:List UInt8:=(List.range 256).map fun n=>UInt8.ofNat (if n = 0 then 0 else Nat.log2 n + 1)
theorem lenTab_at {n:Nat} (h:n < 256):((lenTab.getD n 0).toNat:Int) = bitsLen n:=by
 have h1:lenTab.getD n 0 = UInt8.ofNat (bitsLen n):=by
  unfold lenTab
  rw [List.getD_eq_getElem?_getD,List.getElem?_map,List.getElem?_range h]
  rfl
 have h2:bitsLen n ≤ 8:=(bitsLen_le_iff n 8).2 (by omega)
 rw [h1,UInt8.toNat_ofNat']
 omega
theorem bitsLen_div256 {x:Nat} (h:256 ≤ x):bitsLen (x / 256) + 8 = bitsLen x:=by
 have a:=(bitsLen_le_iff (x / 256) (bitsLen x - 8)).2 (by
  have h1:=lt_two_pow_bitsLen x
  have h2:8 < bitsLen x:=by
   have:=(bitsLen_le_iff x 8)
   omega
  have h3:2 ^ bitsLen x = 2 ^ (bitsLen x - 8) * 256:=by rw [show (256:Nat) = 2 ^ 8 from rfl,← Nat.pow_add];congr 1;omega
  omega)
 have b:=(bitsLen_le_iff x (bitsLen (x / 256) + 8)).2 (by
  have h1:=lt_two_pow_bitsLen (x / 256)
  rw [Nat.pow_add]
  omega)
 have h2:8 < bitsLen x:=by
  have:=(bitsLen_le_iff x 8)
  omega
 omega
set_option maxRecDepth 100000 in
theorem len64_ps (x:UInt64) (hx:x.toNat < 65536):PS Tryz.prog 129 [uA x] (iA (bitsLen x.toNat)):=by
 refine Spec.of (nt:=25) (res:=[.tmp 2]) Tryz.func129 rfl (by kernel_rfl) rfl rfl rfl fun Sf=>?_
 (repeat (first | refine WK ?_ | refine All.i fun X=>?_ | refine AllY.i fun Y=>?_))
 refine AWP.cond_f rfl (decide_eq_false (by omega)) ?_
 (repeat (first | refine WK ?_ | refine All.i fun X=>?_ | refine AllY.i fun Y=>?_))
 refine AWP.cond_f rfl (decide_eq_false (by omega)) ?_
 (repeat (first | refine WK ?_ | refine All.i fun X=>?_ | refine AllY.i fun Y=>?_))
 refine AWP.joinS (fun b:UInt64 × Nat=>b.1.toNat < 256 ∧ bitsLen b.1.toNat + b.2 = bitsLen x.toNat ∧ b.2 ≤ 8) (fun b=>⟨[(0,uA b.1),(2,iA b.2)],Sf⟩) ?_ ?_
 ·refine AWP.cond rfl (fun h=>?_) (fun h=>?_)
  ·have h:256 ≤ x.toNat:=by have:=of_decide_eq_true h;omega
   have hs:(x >>> UInt64.ofNat 8).toNat = x.toNat / 256:=by
    rw [UInt64.toNat_shiftRight,UInt64.toNat_ofNat',show 8 % 2 ^ 64 % 64 = 8 from rfl,Nat.shiftRight_eq_div_pow]
   (repeat (first | (refine AOps.gN ?_;first | refine AOps.p (W.shrU 8 (by omega) rfl rfl rfl) rfl ?_) | refine WK ?_ | refine All.i fun X=>?_ | refine AllY.i fun Y=>?_))
   refine jn (x >>> UInt64.ofNat 8,8) ⟨by dsimp only;omega,?_,by (try dsimp only);omega⟩
   dsimp only
   rw [hs]
   exact bitsLen_div256 h
  ·have h:¬ 256 ≤ x.toNat:=by have:=of_decide_eq_false h;omega
   (repeat (first | refine WK ?_ | refine All.i fun X=>?_ | refine AllY.i fun Y=>?_))
   exact jn (x,0) ⟨by dsimp only;omega,rfl,by (try dsimp only);omega⟩
 ·rintro ⟨u,m⟩ ⟨h1,h2,h3⟩
  dsimp only at h1 h2 h3 ⊢
  have hw:IntKind.u8.wrap ((u.toNat:Nat):Int) = ((u.toNat:Nat):Int):=by rw [IntKind.wrap_u8'];omega
  have hat:=lenTab_at h1
  have hb8:bitsLen u.toNat ≤ 8:=(bitsLen_le_iff _ 8).2 (by omega)
  have hw2:IntKind.i64.wrap ((lenTab.getD u.toNat 0).toNat:Int) = ((bitsLen u.toNat:Nat):Int):=by rw [hat];exact wrap_id (by omega) (by omega)
  (repeat (first | (refine AOps.gN ?_;first | refine AOps.p (W.convW .u64 .u8 _ (by kernel_rfl) (by kernel_rfl) hw rfl) rfl ?_ | refine AOps.p (W.idxStr (s:=lenTab) (a:=u.toNat) (by kernel_rfl) rfl rfl (by rw [lenTab_len];exact h1)) rfl ?_ | refine AOps.p (W.convW .u8 .i64 _ (by kernel_rfl) (by kernel_rfl) hw2 rfl) rfl ?_ | refine AOps.p (W.addE ((bitsLen x.toNat:Nat):Int) (by omega) (by omega) rfl rfl) rfl ?_) | refine WK ?_ | refine All.i fun X=>?_ | refine AllY.i fun Y=>?_))
  (refine AWP.ret ?_;(repeat (first | refine inB_r ?_ | refine andThen_r ?_));refine retQ_r ?_);refine Ends.ps ?_
  rfl
theorem len_ps (x:UInt64) (hx:x.toNat < 65536):PS Tryz.prog 98 [uA x] (iA (bitsLen x.toNat)):=by
 have h:=len64_ps x hx
 refine Spec.of (nt:=8) (res:=[.tmp 2]) Tryz.func98 rfl (by kernel_rfl) rfl rfl rfl fun Sf=>?_
 (repeat (first | refine WK ?_ | refine All.i fun X=>?_ | refine AllY.i fun Y=>?_))
 refine AWP.cond_f rfl rfl ?_
 (repeat (first | (refine AOps.gN ?_;first | (refine AOps.g_callf ?_;first | refine AOps.c1 (h:=(h ..)) (k:=?_))) | refine WK ?_ | refine All.i fun X=>?_ | refine AllY.i fun Y=>?_))
 (refine AWP.ret ?_;(repeat (first | refine inB_r ?_ | refine andThen_r ?_));refine retQ_r ?_);refine Ends.ps ?_
 rfl
theorem nextPow_ps (n:Nat) (hn:n < 65536):PS Tryz.prog 150 [iA n] (uA ((1:UInt64) <<< UInt64.ofNat (bitsLen n))):=by
 have e:(UInt64.ofNat n).toNat = n:=by rw [UInt64.toNat_ofNat'];omega
 have h:=len_ps (UInt64.ofNat n) (by rw [e];exact hn)
 rw [e] at h
 have hb:bitsLen n ≤ 16:=(bitsLen_le_iff n 16).2 (by omega)
 refine Spec.of (nt:=7) (res:=[.tmp 2]) Tryz.func150 rfl (by kernel_rfl) rfl rfl rfl fun Sf=>?_
 (repeat (first | (refine AOps.gN ?_;first | (refine AOps.g_callf ?_;first | refine AOps.c1 (h:=(h ..)) (k:=?_)) | refine AOps.p (W.toUN .i64 n rfl (by omega) (by kernel_rfl) (by kernel_rfl) rfl) rfl ?_ | refine AOps.p (W.shlU (a:=1) (bitsLen n) (by omega) rfl rfl rfl) rfl ?_) | refine WK ?_ | refine All.i fun X=>?_ | refine AllY.i fun Y=>?_))
 (refine AWP.ret ?_;(repeat (first | refine inB_r ?_ | refine andThen_r ?_));refine retQ_r ?_);refine Ends.ps ?_
 rfl
theorem xorNext_sp (Y:Nat) (s:UInt64):Spec Tryz.prog 151 [.ptr Y 0 0] [(Y,.row 215 1 [uA s])] fun r S'=>∃ v:UInt64,True ∧ r = uA v ∧ S' = [(Y,.row 215 1 [uA v])]:=by
 refine Spec.of (nt:=33) (res:=[.tmp 2]) Tryz.func151 rfl (by kernel_rfl) rfl rfl rfl fun Sf=>?_
 (repeat refine WF ?_);refine AWP.region ?_;(repeat (first | refine WO ?_ | refine All.i fun X=>?_ | refine AllY.i fun Y=>?_));refine AOps.nil ?_;(repeat refine WN ?_)
 (repeat refine WF ?_);refine AWP.region_run (by kernel_rfl) (by kernel_rfl) ?_;(repeat (first | (refine RGo.gN ?_;first | refine RGo.p (W.shlU 13 (by omega) rfl rfl rfl) rfl ?_ | refine RGo.p (W.xorU rfl rfl) rfl ?_) | (refine RGo.gQ ?_;first | refine RGo.p (W.shlU 13 (by omega) rfl rfl rfl) rfl ?_ | refine RGo.p (W.xorU rfl rfl) rfl ?_) | refine RK ?_ | refine RGo.nil (by kernel_rfl) ?_))
 (repeat refine WF ?_)
 (repeat refine WF ?_);refine AWP.region_run (by kernel_rfl) (by kernel_rfl) ?_;(repeat (first | (refine RGo.gN ?_;first | refine RGo.p (W.shrU 7 (by omega) rfl rfl rfl) rfl ?_ | refine RGo.p (W.xorU rfl rfl) rfl ?_) | (refine RGo.gQ ?_;first | refine RGo.p (W.shrU 7 (by omega) rfl rfl rfl) rfl ?_ | refine RGo.p (W.xorU rfl rfl) rfl ?_) | refine RK ?_ | refine RGo.nil (by kernel_rfl) ?_))
 (repeat refine WF ?_)
 (repeat refine WF ?_);refine AWP.region_run (by kernel_rfl) (by kernel_rfl) ?_;(repeat (first | (refine RGo.gN ?_;first | refine RGo.p (W.shlU 17 (by omega) rfl rfl rfl) rfl ?_ | refine RGo.p (W.xorU rfl rfl) rfl ?_) | (refine RGo.gQ ?_;first | refine RGo.p (W.shlU 17 (by omega) rfl rfl rfl) rfl ?_ | refine RGo.p (W.xorU rfl rfl) rfl ?_) | refine RK ?_ | refine RGo.nil (by kernel_rfl) ?_))
 (repeat (first | refine WK ?_ | refine All.i fun X=>?_ | refine AllY.i fun Y=>?_))
 (refine AWP.ret ?_;(repeat (first | refine inB_r ?_ | refine andThen_r ?_));refine retQ_r ?_)
 exact Ends.sp [uA _] [(Y,_)] ⟨_,trivial,rfl,rfl⟩
end
section
open Go.Sort
theorem pdqC_small (f:FuncId) (cap:List AV) (cf:Comp → Comp → Int) (hst:st1s cap = true) (hf:∀ x y,PS Tryz.prog f (compA false x :: compA false y :: cap) (iA (cf x y))) (X n limit:Nat) (d:Array Comp) (hn:n = d.size) (h12:d.size ≤ 12):PO Tryz.prog 115 [.sl X 0 n,iA 0,iA n,iA limit,.fn f cap] X (.row 42 2 (d.toList.map (compA false))) (.tup []) (.row 42 2 ((insertionSort (ltOf cf) d 0 d.size).toList.map (compA false))):=by
 have hs:=insC_po f cap cf hst hf X n d 0 d.size hn (Nat.zero_le _) (Nat.le_refl _) (by omega)
 rw [← hn] at hs
 have hsz:d.size = n:=hn.symm
 refine Spec.of (nt:=148) (res:=[]) Tryz.func115 rfl (by kernel_rfl) rfl rfl rfl fun Sf=>?_
 (repeat (first | refine WK ?_ | refine All.i fun X=>?_ | refine AllY.i fun Y=>?_))
 refine AWP.lp (fun _:Unit=>⟨[(0,.sl X 0 n),(1,iA 0),(2,iA n),(3,iA limit),(4,.fn f cap)],(X,.row 42 2 (d.toList.map (compA false))) :: Sf⟩) (fun _=>True) (fun _=>0) () trivial ?_
 rintro _ _
 refine AWP.block ?_
 (repeat (first | (refine AOps.gN ?_;first | refine AOps.p (W.subE (n:Int) (by omega) (by omega) rfl rfl) rfl ?_) | refine WK ?_ | refine All.i fun X=>?_ | refine AllY.i fun Y=>?_))
 refine AWP.cond_t rfl (decide_eq_true (by omega)) ?_
 (repeat (first | (refine AOps.gN ?_;first | (refine AOps.g_callf ?_;first | refine AOps.o4 (h:=(hs ..)) (k:=?_))) | refine WK ?_ | refine All.i fun X=>?_ | refine AllY.i fun Y=>?_))
 (refine AWP.ret ?_;(repeat (first | refine inB_r ?_ | refine andThen_r ?_));refine retQ_r ?_)
 rw [hsz]
 exact Ends.void [(X,_)] ⟨rfl,rfl⟩
theorem permIn_list {α:Type} [Inhabited α] {d u:Array α} (h:PermIn 0 d.size d u):u.toList.Perm d.toList:=by
 obtain ⟨h1,_,h3⟩:=h
 have e1:u.extract 0 d.size = u:=by rw [← h1];exact Array.extract_size
 rwa [e1,Array.extract_size] at h3
theorem sortedIn_list {α:Type} [Inhabited α] {lt:α → α → Bool} {u:Array α} {n:Nat} (hn:n = u.size) (h:SortedIn lt 0 n u):u.toList.Pairwise fun a b=>lt b a = false:=by
 rw [List.pairwise_iff_getElem]
 intro i j hi hj hij
 have hi':i < u.size:=by simpa using hi
 have hj':j < u.size:=by simpa using hj
 have:=h i j (Nat.zero_le _) hij (by omega)
 rw [getElem!_pos u j hj',getElem!_pos u i hi'] at this
 simpa using this
set_option maxRecDepth 8000 in
theorem sortFuncC_sp (f:FuncId) (cap:List AV) (cf:Comp → Comp → Int) (hst:st1s cap = true) (hS:SWO (ltOf cf)) (hf:∀ x y,PS Tryz.prog f (compA false x :: compA false y :: cap) (iA (cf x y))) (X n:Nat) (l:List Comp) (hn:n = l.length) (h12:l.length ≤ 12) :
  ∃ u:List Comp,(u.Perm l ∧ u.Pairwise fun a b=>ltOf cf b a = false) ∧ PO Tryz.prog 76 [.sl X 0 n,.fn f cap] X (.row 42 2 (l.map (compA false))) (.tup []) (.row 42 2 (u.map (compA false))):=by
 obtain ⟨p1,p2⟩:=insertionSort_holds (lt:=ltOf cf) hS l.toArray 0 l.toArray.size (Nat.zero_le _) (Nat.le_refl _)
 have e1:(UInt64.ofNat n).toNat = n:=by rw [UInt64.toNat_ofNat'];omega
 have hlen:=len_ps (UInt64.ofNat n) (by rw [e1];omega)
 rw [e1] at hlen
 have hs:=pdqC_small f cap cf hst hf X n (bitsLen n) l.toArray (by simpa using hn) (by simpa using h12)
 obtain ⟨u,hu⟩:∃ u,insertionSort (ltOf cf) l.toArray 0 l.toArray.size = u:=⟨_,rfl⟩
 rw [hu] at p1 p2 hs
 refine ⟨u.toList,⟨by simpa using permIn_list p1,sortedIn_list p1.1.symm p2⟩,?_⟩
 simp only [List.toList_toArray] at hs
 refine Spec.of (nt:=14) (res:=[]) Tryz.func76 rfl (by kernel_rfl) rfl rfl rfl fun Sf=>?_
 (repeat (first | (refine AOps.gN ?_;first | (refine AOps.g_callf ?_;first | refine AOps.c1 (h:=(hlen ..)) (k:=?_) | refine AOps.o5 (h:=(hs ..)) (k:=?_)) | refine AOps.p (W.toUN .i64 n rfl (by omega) (by kernel_rfl) (by kernel_rfl) rfl) rfl ?_) | refine WK ?_ | refine All.i fun X=>?_ | refine AllY.i fun Y=>?_))
 refine retQ_n ?_
 exact Ends.void [(X,_)] ⟨rfl,rfl⟩
theorem cmpI_neg (a b:Int):cmpI a b < 0 ↔ a < b:=by
 unfold cmpI
 split
 ·simp;assumption
 ·split <;> simp <;> omega
theorem swo_key {α:Type} (key:α → Int):SWO (ltOf fun x y=>cmpI (key x) (key y)) where
 irrefl x:=by simp only [ltOf,decide_eq_false_iff_not,cmpI_neg];omega
 trans x y z h1 h2:=by simp only [ltOf,decide_eq_true_eq,cmpI_neg] at *;omega
 ntrans x y z h1 h2:=by simp only [ltOf,decide_eq_false_iff_not,cmpI_neg] at *;omega
end
theorem indexFuncC_ps (l:List Comp) (f:FuncId) (cap:List AV) (p:Comp → Bool) (hs:st1s cap = true) (hl:l.length ≤ 4611686018427387904) (hf:∀ x ∈ l,PS Tryz.prog f ((compA false) x :: cap) (bA (p x))):PS Tryz.prog 113 [.lst false 42 2 (l.map (compA false)),.fn f cap] (iA (idxF l p)):=by
 refine Spec.of (nt:=19) (res:=[.tmp 4]) Tryz.func113 rfl (by kernel_rfl) rfl rfl rfl fun Sf=>?_
 (repeat (first | refine WK ?_ | refine All.i fun X=>?_ | refine AllY.i fun Y=>?_))
 refine AWP.lp (fun i:Nat=>⟨[(0,.lst false 42 2 (l.map (compA false))),(1,.fn f cap),(7,iA (l.map (compA false)).length),(8,iA i)],Sf⟩) (fun i=>i ≤ l.length ∧ ∀ j (h:j < l.length),j < i → p l[j] = false) (fun i=>l.length - i) 0 ⟨Nat.zero_le _,fun j h hj=>absurd hj (by omega)⟩ ?_
 rintro i ⟨hi,he⟩
 (repeat (first | refine WK ?_ | refine All.i fun X=>?_ | refine AllY.i fun Y=>?_))
 refine AWP.cond rfl (fun hc=>?_) (fun hc=>?_)
 ·have h:i < l.length:=by simpa using hc
  (repeat (first | (refine AOps.gN ?_;first | (refine AOps.g_callv ?_;first | refine AOps.k1 (h:=(hf _ (List.getElem_mem h))) (k:=?_))) | refine WK ?_ | refine All.i fun X=>?_ | refine AllY.i fun Y=>?_))
  refine AWP.cond rfl (fun hd=>?_) (fun hd=>?_)
  ·(repeat (first | refine WK ?_ | refine All.i fun X=>?_ | refine AllY.i fun Y=>?_))
   (refine AWP.ret ?_;(repeat (first | refine inB_r ?_ | refine andThen_r ?_));refine retQ_r ?_);refine Ends.ps ?_
   rw [idxF_some h hd fun j hj=>he j (by omega) hj]
  ·(repeat (first | refine WK ?_ | refine All.i fun X=>?_ | refine AllY.i fun Y=>?_))
   refine lp_next (i + 1) ⟨h,fun j h1 h2=>?_⟩
   by_cases e:j = i
   ·subst e;exact hd
   ·exact he j h1 (by omega)
 ·have h:¬ i < l.length:=by simpa using hc
  (repeat (first | refine WK ?_ | refine All.i fun X=>?_ | refine AllY.i fun Y=>?_))
  (refine AWP.ret ?_;(repeat (first | refine inB_r ?_ | refine andThen_r ?_));refine retQ_r ?_);refine Ends.ps ?_
  rw [idxF_none fun j hj=>he j hj (by omega)]
theorem containsFuncC_ps (l:List Comp) (f:FuncId) (cap:List AV) (p:Comp → Bool) (hs:st1s cap = true) (hl:l.length ≤ 4611686018427387904) (hf:∀ x ∈ l,PS Tryz.prog f ((compA false) x :: cap) (bA (p x))):PS Tryz.prog 73 [.lst false 42 2 (l.map (compA false)),.fn f cap] (bA (l.any p)):=by
 refine Spec.of (nt:=9) (res:=[.tmp 4]) Tryz.func73 rfl (by kernel_rfl) rfl rfl rfl fun Sf=>?_
 (repeat (first | (refine AOps.gN ?_;first | (refine AOps.g_callf ?_;first | refine AOps.c2 (h:=(indexFuncC_ps l f cap p hs hl hf)) (k:=?_))) | refine WK ?_ | refine All.i fun X=>?_ | refine AllY.i fun Y=>?_))
 (refine AWP.ret ?_;(repeat (first | refine inB_r ?_ | refine andThen_r ?_));refine retQ_r ?_);refine Ends.ps ?_
 rw [← idxF_any]
section
open Go.Sort
theorem fit1_ps (o c:Comp):PS Tryz.prog 74 [compA false o,.fp (compA false c).cells] (bA (decide (o.kind = c.kind))):=by
 refine Spec.of (nt:=9) (res:=[.tmp 3]) Tryz.func74 rfl (by kernel_rfl) rfl rfl rfl fun Sf=>?_
 (repeat (first | (refine AOps.gN ?_;first | (refine AOps.g_box ?_;refine AOps.goB ?_)) | refine WK ?_ | refine All.i fun X=>?_ | refine AllY.i fun Y=>?_))
 (refine AWP.ret ?_;(repeat (first | refine inB_r ?_ | refine andThen_r ?_));refine retQ_r ?_);refine Ends.ps ?_
 rfl
theorem fit2_ps (a b:Comp):PS Tryz.prog 77 [compA false a,compA false b] (iA (cmpI a.kind b.kind)):=by
 refine Spec.of (nt:=10) (res:=[.tmp 4]) Tryz.func77 rfl (by kernel_rfl) rfl rfl rfl fun Sf=>?_
 (repeat (first | (refine AOps.gN ?_;first | (refine AOps.g_callf ?_;first | refine AOps.c2 (h:=(compare_ps a.kind b.kind)) (k:=?_)) | (refine AOps.g_box ?_;refine AOps.goB ?_)) | refine WK ?_ | refine All.i fun X=>?_ | refine AllY.i fun Y=>?_))
 (refine AWP.ret ?_;(repeat (first | refine inB_r ?_ | refine andThen_r ?_));refine retQ_r ?_);refine Ends.ps ?_
 rfl
set_option maxRecDepth 8000 in
set_option maxHeartbeats 2000000 in
theorem wfit_ps (ks:List Kind) (l:List Comp) (h12:ks.length ≤ 12) (hl:l.length ≤ 1099511627776):PS Tryz.prog 40 [kindsA false false ks,compsA false false l] (.tup [compsA true false (wFit ks l).1,iA (wFit ks l).2]):=by
 have hck:=check_ps ks
 obtain ⟨r,hr⟩:∃ r,wFit ks l = r:=⟨_,rfl⟩
 rw [hr]
 unfold wFit at hr
 have hlm:(l.map (compA false)).length = l.length:=List.length_map _
 have hkm:(ks.map (kindA false)).length = ks.length:=List.length_map _
 refine Spec.of (nt:=64) (res:=[.tmp 4,.tmp 5]) Tryz.func40 rfl (by kernel_rfl) rfl rfl rfl fun Sf=>?_
 (repeat (first | (refine AOps.gN ?_;first | (refine AOps.g_callf ?_;first | refine AOps.c1 (h:=(hck ..)) (k:=?_))) | refine WK ?_ | refine All.i fun X=>?_ | refine AllY.i fun Y=>?_))
 refine AWP.cond rfl (fun hc=>?_) (fun hc=>?_)
 ·have hc:checkErr ks ≠ 0:=by simpa using hc
  rw [if_pos hc] at hr
  subst hr
  (repeat (first | refine WK ?_ | refine All.i fun X=>?_ | refine AllY.i fun Y=>?_))
  (refine AWP.ret ?_;(repeat (first | refine inB_r ?_ | refine andThen_r ?_));refine retQ_r ?_)
  exact Ends.cv [.prim (.slice none 0 0),iA (checkErr ks)] [compsA true false [],iA (checkErr ks)] (.cons (.cell .nil) (.cons (.cell .same) .nil))
 have hc:checkErr ks = 0:=by simpa using hc
 rw [if_neg (by simp [hc])] at hr
 have hgo:=fun h=>fitGo_ok (ks:=ks) (l:=l) (pre:=[]) (out:=[]) h (by simp) (by simp) (by simp)
 obtain ⟨g,hg⟩:∃ g,fitGo ks [] [] l = g:=⟨_,rfl⟩
 rw [hg] at hr hgo
 (repeat (first | refine WK ?_ | refine All.i fun X=>?_ | refine AllY.i fun Y=>?_))
 refine AWP.adopt (d:=7) 42 2 rfl fun O=>?_
 refine AWP.lp4 (fun (q Y m:Nat) (M:List AV)=>⟨[(0,kindsA false false ks),(1,compsA false false l),(7,.sl Y 0 m),(17,compsA false false l),(18,iA (l.map (compA false)).length),(19,iA q)],(Y,.row 42 2 M) :: Sf⟩) (fun q _ m M=>q ≤ l.length ∧ m = M.length ∧ m = q ∧ ∃ out:List Comp,M = out.map (compA false) ∧ fitGo ks (l.take q) out (l.drop q) = g) (fun q _ _ _=>l.length - q) 0 O 0 [] ⟨Nat.zero_le _,rfl,rfl,[],rfl,hg⟩ ?_
 rintro q Y m M ⟨hq,hm,hmq,out,hM,hfold⟩
 (repeat (first | refine WK ?_ | refine All.i fun X=>?_ | refine AllY.i fun Y=>?_))
 refine AWP.cond rfl (fun he=>?_) (fun he=>?_)
 ·have h:q < l.length:=by rw [decide_eq_true_eq,hlm] at he;omega
  obtain ⟨c,hcq⟩:∃ c,l[q] = c:=⟨_,rfl⟩
  have hat:(l.map (compA false))[q]? = some (compA false c):=by rw [List.getElem?_map,List.getElem?_eq_getElem h,hcq];rfl
  rw [List.drop_eq_getElem_cons h,hcq,fitGo] at hfold
  have hcf:=containsFuncC_ps (l.take q) 74 [.fp (compA false c).cells] (fun o=>decide (o.kind = c.kind)) rfl (by rw [List.length_take];omega) (fun o _=>fit1_ps o c)
  obtain ⟨ck,cv⟩:=c
  dsimp only at hfold hcf
  rw [List.map_take] at hcf
  (repeat (first | refine WK ?_ | refine All.i fun V=>?_ | refine AllY.i fun Y=>?_))
  refine AWP.cond rfl (fun hd=>?_) (fun hd=>?_)
  ·have hb:ck < 0 ∨ (ks.length:Int) ≤ ck:=by simpa using hd
   rw [if_pos hb] at hfold
   subst hfold
   rw [if_pos (by decide)] at hr
   subst hr
   (repeat (first | refine WK ?_ | refine All.i fun X=>?_ | refine AllY.i fun Y=>?_))
   (refine AWP.ret ?_;(repeat (first | refine inB_r ?_ | refine andThen_r ?_));refine retQ_r ?_)
   exact Ends.cv [.prim (.slice none 0 0),iA 1] [compsA true false [],iA 1] (.cons (.cell .nil) (.cons (.cell .same) .nil))
  have hb:¬ (ck < 0 ∨ (ks.length:Int) ≤ ck):=by simpa using hd
  rw [if_neg hb] at hfold
  obtain ⟨j,hj⟩:∃ j:Nat,ck = j:=⟨ck.toNat,by omega⟩
  subst hj
  have hjl:j < ks.length:=by omega
  rw [Int.toNat_natCast,List.getElem?_eq_getElem hjl] at hfold
  obtain ⟨k,hk⟩:∃ k,ks[j] = k:=⟨_,rfl⟩
  rw [hk] at hfold
  dsimp only at hfold
  have hatk:(ks.map (kindA false))[j]? = some (kindA false k):=by rw [List.getElem?_map,List.getElem?_eq_getElem hjl,hk];rfl
  have hft:=fit_ps k cv
  refine AWP.iceP [9] (X:=V) (by exact At.f) (b:=compA false ⟨j,cv⟩) (hf:=⟨by show (AV.agg [iA (j:Int),intsA false cv]).frz = _;exact Frz.h⟩) ?_ (by intro d hd;simp only [List.mem_singleton] at hd;subst hd;rfl)
  (repeat (first | (refine AOps.gN ?_;first | (refine AOps.g_callf ?_;first | refine AOps.c2 (h:=(hcf ..)) (k:=?_)) | refine AOps.p (W.hiL rfl rfl rfl (by rw [hlm];exact hq)) rfl ?_) | refine WK ?_ | refine All.i fun X=>?_ | refine AllY.i fun Y=>?_))
  refine AWP.cond rfl (fun hd2=>?_) (fun hd2=>?_)
  ·rw [if_pos hd2] at hfold
   subst hfold
   rw [if_pos (by decide)] at hr
   subst hr
   (repeat (first | refine WK ?_ | refine All.i fun X=>?_ | refine AllY.i fun Y=>?_))
   (refine AWP.ret ?_;(repeat (first | refine inB_r ?_ | refine andThen_r ?_));refine retQ_r ?_)
   exact Ends.cv [.prim (.slice none 0 0),iA 5] [compsA true false [],iA 5] (.cons (.cell .nil) (.cons (.cell .same) .nil))
  rw [if_neg (by simp [hd2])] at hfold
  (repeat refine WF ?_);refine AWP.region_run (by kernel_rfl) (by kernel_rfl) ?_;(repeat (first | (refine RGo.gN ?_;first | refine RGo.c2 (h:=hft) (k:=?_)) | (refine RGo.gQ ?_;first | refine RGo.c2 (h:=hft) (k:=?_)) | refine RK ?_ | refine RGo.nil (by kernel_rfl) ?_))
  (repeat (first | refine WK ?_ | refine All.i fun X=>?_ | refine AllY.i fun Y=>?_))
  refine AWP.cond rfl (fun hd3=>?_) (fun hd3=>?_)
  ·have hd3:(fitOf k cv).2 ≠ 0:=by simpa using hd3
   rw [if_pos hd3] at hfold
   subst hfold
   rw [if_pos hd3] at hr
   subst hr
   (repeat (first | refine WK ?_ | refine All.i fun X=>?_ | refine AllY.i fun Y=>?_))
   (refine AWP.ret ?_;(repeat (first | refine inB_r ?_ | refine andThen_r ?_));refine retQ_r ?_)
   exact Ends.cv [.prim (.slice none 0 0),iA _] [compsA true false [],iA _] (.cons (.cell .nil) (.cons (.cell .same) .nil))
  have hd3:(fitOf k cv).2 = 0:=by simpa using hd3
  rw [if_neg (by simp [hd3])] at hfold
  have hm1:m + 1 ≤ 1099511627776:=by omega
  (repeat (first | (refine AOps.gN ?_;first | (refine AOps.g_lit ?_;refine AOps.goL (compA false ⟨j,(fitOf k cv).1⟩) ?_)) | refine WK ?_ | refine All.i fun X=>?_ | refine AllY.i fun Y=>?_))
  refine lp_next4 (q + 1) Y (m + 1) (M ++ [compA false ⟨j,(fitOf k cv).1⟩]) ⟨h,by rw [List.length_append,hm];rfl,by omega,out ++ [⟨j,(fitOf k cv).1⟩],by rw [hM,List.map_append];rfl,?_⟩
  rw [List.take_succ_eq_append_getElem h,hcq]
  exact hfold
 ·have h:q = l.length:=by rw [decide_eq_false_iff_not,hlm] at he;omega
  rw [h,List.take_length,List.drop_length,fitGo] at hfold
  subst hfold
  dsimp only at hr hgo
  rw [if_neg (by simp)] at hr
  subst hr
  obtain ⟨hg1,hg2⟩:=hgo rfl
  have hlen:out.length ≤ 12:=Nat.le_trans (nodup_le Comp.kind _ _ hg1 hg2) h12
  obtain ⟨u,⟨hu1,hu2⟩,hsf⟩:=sortFuncC_sp 77 [] (fun x y=>cmpI x.kind y.kind) rfl (swo_key Comp.kind) (fun x y=>fit2_ps x y) Y m out (by rw [hm,hM,List.length_map]) hlen
  rw [← hM] at hsf
  (repeat (first | (refine AOps.gN ?_;first | (refine AOps.g_callf ?_;first | refine AOps.o2 (h:=(hsf ..)) (k:=?_))) | refine WK ?_ | refine All.i fun X=>?_ | refine AllY.i fun Y=>?_))
  have hu:u = kSort out:=kSort_uniq hg1 hu1 (hu2.imp fun {a b} hab=>by simp only [ltOf,decide_eq_false_iff_not,cmpI_neg] at hab;omega)
  have hul:m = (u.map (compA false)).length:=by rw [hm,hM,List.length_map,List.length_map,hu1.length_eq]
  (refine AWP.ret ?_;(repeat (first | refine inB_r ?_ | refine andThen_r ?_));refine retQ_r ?_)
  rw [← hu]
  exact Ends.cv [.sl Y 0 m,iA 0] [compsA true false u,iA 0] (.cons (.cell (.sl (p:=0) .here hul)) (.cons (.cell .same) .nil))
end
section
abbrev setT (t:Tab) (m1 m2:List (StK × List (Int × List Int))) (k:StK) (l:List (Int × List Int)) (n:Int) (v:List Int):Tab:=⟨t.X,t.ks,t.ek,t.es,m1 ++ (k,stPut l n v) :: m2⟩
section
variable {t:Tab} {m1 m2:List (StK × List (Int × List Int))} {c:StK × List (Int × List Int)} {k:StK} {n:Int} {v:List Int}
theorem TabOK.setT (h:TabOK t) (hcs:t.cs = m1 ++ c :: m2) (hn:n ∈ keysC t.es):TabOK (setT t m1 m2 k c.2 n v):=by
 have hcm:c ∈ t.cs:=by rw [hcs];simp
 have hnl:=h.es.lt n hn
 have hmem:∀ d,d ∈ m1 ++ (k,stPut c.2 n v) :: m2 → d = (k,stPut c.2 n v) ∨ d ∈ t.cs:=fun d hd=>by
  rw [hcs]
  rcases List.mem_append.1 hd with hd | hd
  ·exact .inr (by simp [hd])
  ·rcases List.mem_cons.1 hd with hd | hd
   ·exact .inl hd
   ·exact .inr (by simp [hd])
 refine ⟨by have:=h.len;rw [hcs] at this;simpa using this,h.ks,h.es,fun d hd=>?_,fun d hd m=>?_⟩
 ·rcases hmem d hd with rfl | hd
  ·exact (h.cs c hcm).put hnl v
  ·exact h.cs d hd
 ·rcases hmem d hd with rfl | hd
  ·show m ∈ keysC (stPut c.2 n v) ↔ _
   rw [stPut_keys ((h.keys c hcm n).2 hn)]
   exact h.keys c hcm m
  ·exact h.keys d hd m
theorem setT_zip {β γ:Type} {ks:List β} {m1 m2:List γ} {c d:γ} {f:β × γ → Comp}:(ks.zip (m1 ++ d :: m2)).map f = match ks[m1.length]? with | some k=>((ks.zip (m1 ++ c :: m2)).map f).set m1.length (f (k,d)) | none=>(ks.zip (m1 ++ c :: m2)).map f:=by
 induction m1 generalizing ks with
 | nil=>cases ks <;> rfl
 | cons x m1 ih =>
  cases ks with
  | nil=>rfl
  | cons y ks =>
   simp only [List.cons_append,List.zip_cons_cons,List.map_cons,List.length_cons,List.getElem?_cons_succ]
   rw [ih]
   cases ks[m1.length]? with
   | none=>rfl
   | some k=>rfl
theorem tComps_setN (h:TabOK t) (hcs:t.cs = m1 ++ c :: m2) (hn:n ∈ keysC t.es) {z:Int} (hz:t.ks[m1.length]? = some z):tComps (setT t m1 m2 k c.2 n v) n = (tComps t n).set m1.length ⟨z,v⟩:=by
 unfold tComps
 rw [setT_zip (c:=c) (d:=(k,stPut c.2 n v)),hcs,hz]
 dsimp only
 rw [stPut_get (h.cs c (by rw [hcs];simp)) (h.es.lt n hn),if_pos rfl]
 rfl
theorem tComps_setO (h:TabOK t) (hcs:t.cs = m1 ++ c :: m2) (hn:n ∈ keysC t.es) {m:Int} (hne:m ≠ n):tComps (setT t m1 m2 k c.2 n v) m = tComps t m:=by
 unfold tComps
 rw [setT_zip (c:=c) (d:=(k,stPut c.2 n v)),hcs]
 cases hz:t.ks[m1.length]? with
 | none=>rfl
 | some z =>
  dsimp only
  rw [stPut_get (h.cs c (by rw [hcs];simp)) (h.es.lt n hn),if_neg hne]
  refine List.ext_getElem? fun j=>?_
  rw [List.getElem?_set]
  split
  ·rename_i e
   subst e
   split
   ·rw [List.getElem?_map,(List.getElem?_zip_eq_some (z:=(z,c))).2 ⟨hz,by simp⟩]
    rfl
   ·rename_i hlt
    rw [List.getElem?_eq_none (by omega)]
  ·rfl
theorem tItems_set (h:TabOK t) (hcs:t.cs = m1 ++ c :: m2) {e:Ent} (hm:(n,e) ∈ t.es) {z:Int} (hz:t.ks[m1.length]? = some z):(tItems (setT t m1 m2 k c.2 n v)).Perm (⟨e,(tComps t n).set m1.length ⟨z,v⟩⟩ :: tItems (downT t n)):=by
 have hn:n ∈ keysC t.es:=List.mem_map.2 ⟨_,hm,rfl⟩
 have hp:=stDrop_perm h.es hm
 have h1:=hp.map fun p:Int × Ent=>(⟨p.2,tComps (setT t m1 m2 k c.2 n v) p.1⟩:Item)
 refine h1.trans ?_
 rw [List.map_cons,tComps_setN h hcs hn hz]
 refine List.Perm.cons _ (List.Perm.of_eq ?_)
 show _ = (stDrop t.es n).map fun p=>(⟨p.2,tComps (downT t n) p.1⟩:Item)
 refine List.map_congr_left fun p hp'=>?_
 have hk:p.1 ∈ keysC (stDrop t.es n):=List.mem_map.2 ⟨p,hp',rfl⟩
 have hne:=((stDrop_keys h.es).1 hk).2
 rw [tComps_down h hne,tComps_setO h hcs hn hne]
end
section
variable {a:Ar} {l1 l2:List Tab} {t:Tab} {m1 m2:List (StK × List (Int × List Int))} {c:StK × List (Int × List Int)} {k:StK} {n:Int} {v:List Int}
theorem keys_set:tKeys (l1 ++ setT t m1 m2 k c.2 n v :: l2) = tKeys (l1 ++ t :: l2):=by
 rw [tKeys_app,tKeys_cons,tKeys_app,tKeys_cons]
theorem ArOK.setT (h:ArOK a) (hts:a.ts = l1 ++ t :: l2) (hcs:t.cs = m1 ++ c :: m2) (hn:n ∈ keysC t.es):ArOK { a with ts:=l1 ++ Go.Proofs.YtnlekapghebhlaaGreat.setT t m1 m2 k c.2 n v :: l2 }:=by
 have htm:t ∈ a.ts:=by rw [hts];simp
 have hmem:∀ u,u ∈ l1 ++ Go.Proofs.YtnlekapghebhlaaGreat.setT t m1 m2 k c.2 n v :: l2 → u = Go.Proofs.YtnlekapghebhlaaGreat.setT t m1 m2 k c.2 n v ∨ u ∈ a.ts:=fun u hu=>by
  rw [hts]
  rcases List.mem_append.1 hu with hu | hu
  ·exact .inr (by simp [hu])
  ·rcases List.mem_cons.1 hu with hu | hu
   ·exact .inl hu
   ·exact .inr (by simp [hu])
 have hk:tKeys (l1 ++ Go.Proofs.YtnlekapghebhlaaGreat.setT t m1 m2 k c.2 n v :: l2) = tKeys a.ts:=by rw [hts,keys_set]
 refine ⟨fun u hu=>?_,?_,by show (tKeys _).Nodup;rw [hk];exact h.keys,fun u hu=>?_,fun m u hg=>?_,fun m hm'=>h.gn m (by rw [← hk];exact hm'),by show a.c = (tKeys _).length;rw [hk];exact h.cnt⟩
 ·rcases hmem u hu with rfl | hu
  ·exact (h.tab t htm).setT hcs hn
  ·exact h.tab u hu
 ·have ho:=h.ord
  rw [hts] at ho
  rw [List.pairwise_append,List.pairwise_cons] at ho ⊢
  exact ⟨ho.1,⟨fun x hx=>ho.2.1.1 x hx,ho.2.1.2⟩,fun x hx y hy=>by
   rcases List.mem_cons.1 hy with rfl | hy
   ·exact ho.2.2 x hx t (by simp)
   ·exact ho.2.2 x hx y (by simp [hy])⟩
 ·rcases hmem u hu with rfl | hu
  ·exact h.ent t htm
  ·exact h.ent u hu
 ·obtain ⟨w,hw,h2,h3,h4⟩:=h.g m u hg
  rw [hts] at hw
  rcases List.mem_append.1 hw with hw | hw
  ·exact ⟨w,by simp [hw],h2,h3,h4⟩
  ·rcases List.mem_cons.1 hw with rfl | hw
   ·exact ⟨Go.Proofs.YtnlekapghebhlaaGreat.setT w m1 m2 k c.2 n v,by simp,h2,h3,h4⟩
   ·exact ⟨w,by simp [hw],h2,h3,h4⟩
theorem items_set (h:ArOK a) (hts:a.ts = l1 ++ t :: l2) (hcs:t.cs = m1 ++ c :: m2) {e:Ent} (hm:(n,e) ∈ t.es) {z:Int} (hz:t.ks[m1.length]? = some z):(arItems (l1 ++ Go.Proofs.YtnlekapghebhlaaGreat.setT t m1 m2 k c.2 n v :: l2)).Perm (⟨e,(tComps t n).set m1.length ⟨z,v⟩⟩ :: arItems (l1 ++ downT t n :: l2)):=by
 have hto:=h.tab t (by rw [hts];simp)
 rw [arItems_app,arItems_cons,arItems_app,arItems_cons]
 refine (((tItems_set hto hcs hm hz).append_right _).append_left _).trans ?_
 exact perm_mid (arItems l1) [(⟨e,(tComps t n).set m1.length ⟨z,v⟩⟩:Item)] (tItems (downT t n) ++ arItems l2)
theorem ne_set (hne:ArNE a.ts) (hts:a.ts = l1 ++ t :: l2):ArNE (l1 ++ Go.Proofs.YtnlekapghebhlaaGreat.setT t m1 m2 k c.2 n v :: l2):=fun u hu=>by
 have h:∀ w ∈ l1 ++ t :: l2,w.es ≠ []:=by rw [← hts];exact hne
 rcases List.mem_append.1 hu with hu | hu
 ·exact h u (by simp [hu])
 ·rcases List.mem_cons.1 hu with rfl | hu
  ·exact h t (by simp)
  ·exact h u (by simp [hu])
end
end
section
structure ArFor (a:Ar) (w:Wd):Prop where
 ok:ArOK a
 ne:ArNE a.ts
 kinds:a.kinds = w.kinds
 gens:a.gens = w.gens
 items:(arItems a.ts).Perm w.items
 wok:WdOK w
theorem lowI_at2 {k:Int}:∀ {l:List Comp},SortC l → lowI (l.map (·.kind)) k = compAt l k
 | [],_=>rfl
 | x :: l,h=>by
  obtain ⟨h1,h2⟩:=List.pairwise_cons.1 h
  have ih:=lowI_at2 (k:=k) h2
  unfold lowI at ih ⊢
  unfold compAt at ih ⊢
  rw [List.map_cons,List.filter_cons,List.takeWhile_cons]
  by_cases e:x.kind < k
  ·simp only [e,decide_true,if_true,List.length_cons,ih]
  ·simp only [e,decide_false,Bool.false_eq_true,if_false,List.length_nil]
   rw [List.length_eq_zero_iff,List.filter_eq_nil_iff]
   intro y hy
   obtain ⟨c,hc,rfl⟩:=List.mem_map.1 hy
   have:=h1 c hc
   simp only [decide_eq_true_eq]
   omega
theorem compOf_mem {l:List Comp} (h:SortC l) {k:Int}:(compOf l k).isSome = true ↔ k ∈ l.map (·.kind):=by
 constructor
 ·intro e
  obtain ⟨c,hc⟩:=Option.isSome_iff_exists.1 e
  obtain ⟨hm,hk⟩:=(compOf_iff h).1 hc
  exact List.mem_map.2 ⟨c,hm,hk⟩
 ·intro e
  obtain ⟨c,hm,hk⟩:=List.mem_map.1 e
  rw [(compOf_iff h).2 ⟨hm,hk⟩];rfl
theorem tComps_kinds {t:Tab} (h:TabOK t) (n:Int):(tComps t n).map (·.kind) = t.ks:=by
 have hl:=h.len
 refine List.ext_getElem (by simp [tComps];omega) fun i h1 h2=>?_
 rw [List.getElem_map,tComps_at (by simpa using h1) h2 (by omega)]
section
variable {a:Ar} {w:Wd}
theorem ArFor.item (h:ArFor a w) {t:Tab} (ht:t ∈ a.ts) {e:Ent} (hm:(e.n,e) ∈ t.es):∃ i:Nat,w.items[i]? = some ⟨e,tComps t e.n⟩:=by
 have h1:(⟨e,tComps t e.n⟩:Item) ∈ arItems a.ts:=List.mem_flatMap.2 ⟨t,ht,List.mem_map.2 ⟨_,hm,rfl⟩⟩
 obtain ⟨i,hi,e1⟩:=List.getElem_of_mem (h.items.mem_iff.1 h1)
 exact ⟨i,by rw [List.getElem?_eq_getElem hi,e1]⟩
theorem ArFor.held (h:ArFor a w) {t:Tab} (ht:t ∈ a.ts) {e:Ent} (hm:(e.n,e) ∈ t.es):heldOf w.kinds (tComps t e.n) = true:=by
 obtain ⟨i,hi⟩:=h.item ht hm
 exact (h.wok.it _ (List.mem_of_getElem? hi)).2.2.2.2
theorem ArFor.sort (h:ArFor a w) {t:Tab} (ht:t ∈ a.ts) {e:Ent} (hm:(e.n,e) ∈ t.es):SortC (tComps t e.n):=(held_iff.1 (h.held ht hm)).1
theorem sortC_ks {t:Tab} (ht:TabOK t) {n:Int} (hs:SortC (tComps t n)):t.ks.Pairwise (· < ·):=by
 rw [← tComps_kinds ht n]
 exact List.pairwise_map.2 hs
theorem ArFor.hasE (h:ArFor a w) {e:Ent} (hh:hasA a e = false):findE w.items e < 0:=by
 by_cases hlt:findE w.items e < 0
 ·exact hlt
 ·obtain ⟨m,hm⟩:∃ m:Nat,findE w.items e = m:=⟨(findE w.items e).toNat,by omega⟩
  obtain ⟨x,hx,_,rfl⟩:=findE_some hm
  unfold hasA at hh
  rw [decide_eq_false_iff_not] at hh
  exact absurd (List.mem_map.2 ⟨x,h.items.mem_iff.2 (List.mem_of_getElem? hx),rfl⟩) hh
theorem perm_set {w:List Item} {i:Nat} {x y:Item} (h:w[i]? = some x) {l r:List Item} (h1:l.Perm (x :: r)) (h2:l.Perm w):(y :: r).Perm (w.set i y):=by
 obtain ⟨hl,_⟩:=List.getElem?_eq_some_iff.1 h
 have e1:=split_at h
 have e2:w.set i y = w.take i ++ y :: w.drop (i + 1):=List.set_eq_take_append_cons_drop.trans (if_pos hl)
 rw [e2]
 refine List.Perm.trans ?_ List.perm_middle.symm
 refine List.Perm.cons _ ?_
 have h3:(x :: r).Perm (x :: (w.take i ++ w.drop (i + 1))):=h1.symm.trans (h2.trans ((List.Perm.of_eq e1).trans List.perm_middle))
 exact h3.cons_inv
theorem perm_eraseI {w:List Item} {i:Nat} {x:Item} (h:w[i]? = some x) {l r:List Item} (h1:l.Perm (x :: r)) (h2:l.Perm w):r.Perm (w.eraseIdx i):=by
 have e1:=split_at h
 have h3:(x :: r).Perm (x :: (w.take i ++ w.drop (i + 1))):=h1.symm.trans (h2.trans ((List.Perm.of_eq e1).trans List.perm_middle))
 rw [List.eraseIdx_eq_take_drop_succ]
 exact h3.cons_inv
theorem ArFor.swap (h:ArFor a w) {e:Ent} {l l':List Comp} {b:Ar} (hs:SwapR a e l l' b) {i:Nat} (hi:w.items[i]? = some ⟨e,l⟩) (hc:heldOf w.kinds l' = true):ArFor b (setItem w i l'):=by
 obtain ⟨r,h1,h2⟩:=hs.items
 have hk:(setItem w i l').kinds = w.kinds:=rfl
 refine ⟨hs.ok,hs.ne,by rw [hs.kinds,h.kinds];rfl,by rw [hs.gens,h.gens];rfl,?_,setItem_ok h.wok hi hc⟩
 rw [setItem_at hi]
 exact h2.trans (perm_set hi h1 h.items)
theorem ArFor.kill (h:ArFor a w) {e:Ent} {b:Ar} (hs:KillR a e b) (hh:hasA a e = true):(killOf w e).2 = 0 ∧ ArFor b (killOf w e).1:=by
 obtain ⟨l,h1⟩:=hs.items
 have hm:(⟨e,l⟩:Item) ∈ w.items:=h.items.mem_iff.1 (h1.mem_iff.2 (by simp))
 obtain ⟨i,hi,e1⟩:=List.getElem_of_mem hm
 have hi:w.items[i]? = some ⟨e,l⟩:=by rw [List.getElem?_eq_getElem hi,e1]
 have hk:=killOf_ok h.wok hi
 have hw:=kill_ok h.wok hi
 dsimp only at hk hw
 rw [hk]
 refine ⟨rfl,hs.ok,hs.ne,by rw [hs.kinds,h.kinds],?_,perm_eraseI hi h1 h.items,hw⟩
 rw [hs.gens,h.gens,List.getD_eq_getElem?_getD]
theorem ArFor.used (h:ArFor a w) (n:Nat):(a.g n).isSome = usedB w.items n:=by
 have hk:(n:Int) ∈ tKeys a.ts ↔ usedB w.items n = true:=by
  rw [h.ok.keys_items]
  unfold usedB
  rw [List.any_eq_true]
  constructor
  ·intro hm
   obtain ⟨x,hx,e⟩:=List.mem_map.1 hm
   exact ⟨x,h.items.mem_iff.1 hx,by simpa using e⟩
  ·rintro ⟨x,hx,e⟩
   exact List.mem_map.2 ⟨x,h.items.mem_iff.2 hx,by simpa using e⟩
 by_cases hu:(n:Int) ∈ tKeys a.ts
 ·rw [h.ok.gn _ hu,hk.1 hu]
 ·have h2:usedB w.items n = false:=by rw [← Bool.not_eq_true];exact fun e=>hu (hk.2 e)
  rw [h2]
  cases hg:a.g n with
  | none=>rfl
  | some u =>
   obtain ⟨t,ht,hm,_⟩:=h.ok.g _ _ hg
   exact absurd (List.mem_flatMap.2 ⟨t,ht,hm⟩) hu
end
end
end Go.Proofs.YtnlekapghebhlaaGreat
