/-
  Part 8 of the texts under the law CmdSplits: the layer of abstract values, walks and plain laws. Conditions: those that each theorem names.
-/
import Derived.Below
import Derived.Test.YtnlekapghebhlaaGreatCmdSplitsP7
namespace Go.Proofs.YtnlekapghebhlaaGreat
set_option linter.unusedVariables false
set_option linter.unusedSimpArgs false
theorem growNilE_ps (n:Nat) (hn:n * 16 ≤ 140737488355328):PS Tryz.prog 65 [.prim (.slice none 0 0),iA n] (.lst true 32 2 []):=by
 refine Spec.of (nt:=27) (res:=[.tmp 4]) Tryz.func65 rfl (by kernel_rfl) rfl rfl rfl fun Sf=>?_
 (repeat (first | refine WK ?_ | refine All.i fun X=>?_ | refine AllY.i fun Y=>?_))
 refine AWP.cond_f rfl (decide_eq_false (by omega)) ?_
 (repeat (first | (refine AOps.gN ?_;first | refine AOps.p (W.capN rfl) rfl ?_) | refine WK ?_ | refine All.i fun X=>?_ | refine AllY.i fun Y=>?_))
 refine AWP.cond rfl (fun hc=>?_) (fun hc=>?_)
 ·have hc:0 < n:=by rw [decide_eq_true_eq] at hc;omega
  (repeat (first | (refine AOps.gN ?_;first | refine AOps.p (W.capN rfl) rfl ?_ | refine AOps.p (W.sliceN rfl rfl) rfl ?_ | (refine AOps.g_app2 ?_;refine AOps.appzN (n:=n) (fun Y=>?_) hc hn (hq:=by omega)) | refine AOps.p (W.hi (a:=0) rfl rfl (by exact At.f) rfl (by omega)) rfl ?_) | refine WK ?_ | refine All.i fun X=>?_ | refine AllY.i fun Y=>?_))
  refine AWP.shrink (X:=Y) 0 ?_
  (refine AWP.ret ?_;(repeat (first | refine inB_r ?_ | refine andThen_r ?_));refine retQ_r ?_)
  exact ⟨[.sl Y 0 0],[.lst true 32 2 []],_,[],.cons (.tmp rfl) rfl .nil,.cons (.cell (.sl (p:=0) .here rfl)) .nil,by exact Sub.f,rfl,rfl⟩
 ·(repeat (first | refine WK ?_ | refine All.i fun X=>?_ | refine AllY.i fun Y=>?_))
  (refine AWP.ret ?_;(repeat (first | refine inB_r ?_ | refine andThen_r ?_));refine retQ_r ?_)
  exact ⟨[.prim (.slice none 0 0)],[.lst true 32 2 []],_,[],.cons (.tmp rfl) rfl .nil,.cons (.cell .nil) .nil,by exact Sub.f,rfl,rfl⟩
def lenToE (ls:List (List Ent)) (i:Nat):Nat:=((ls.take i).flatten).length
theorem lenToE_succ {ls:List (List Ent)} {i:Nat} (h:i < ls.length):lenToE ls (i + 1) = lenToE ls i + ls[i].length:=by
 unfold lenToE
 rw [List.take_succ_eq_append_getElem h,List.flatten_append,List.length_append]
 simp
theorem lenToE_le (ls:List (List Ent)) (i:Nat):lenToE ls i ≤ ls.flatten.length:=by
 unfold lenToE
 have h:((ls.take i).flatten ++ (ls.drop i).flatten) = ls.flatten:=by rw [← List.flatten_append,List.take_append_drop]
 rw [← h,List.length_append]
 omega
theorem concatE_ps (ls:List (List Ent)) (hl:ls.length ≤ 4611686018427387903) (hb:ls.flatten.length * 16 ≤ 140737488355328):PS Tryz.prog 29 [.lst false 58 1 (ls.map fun l=>.lst false 32 2 (l.map entA))] (.lst true 32 2 (ls.flatten.map entA)):=by
 refine Spec.of (nt:=36) (res:=[.tmp 2]) Tryz.func29 rfl (by kernel_rfl) rfl rfl rfl fun Sf=>?_
 have hle:=lenToE_le ls
 (repeat (first | refine WK ?_ | refine All.i fun X=>?_ | refine AllY.i fun Y=>?_))
 refine AWP.lp2 (fun (i:Nat) (s:Int)=>⟨[(0,.lst false 58 1 (ls.map fun l=>.lst false 32 2 (l.map entA))),(3,iA s),(9,.lst false 58 1 (ls.map fun l=>.lst false 32 2 (l.map entA))),(10,iA (ls.map fun l=>AV.lst false 32 2 (l.map entA)).length),(11,iA i)],Sf⟩) (fun i s=>i ≤ ls.length ∧ s = lenToE ls i) (fun i _=>ls.length - i) 0 0 ⟨Nat.zero_le _,rfl⟩ ?_
 rintro i s ⟨hi,hs⟩
 have h0:=hle i
 (repeat (first | refine WK ?_ | refine All.i fun X=>?_ | refine AllY.i fun Y=>?_))
 refine AWP.cond rfl (fun hc=>?_) (fun hc=>?_)
 ·have h:i < ls.length:=by rw [decide_eq_true_eq,List.length_map] at hc;omega
  have hs1:=lenToE_succ h
  have h1:=hle (i + 1)
  have hml:(ls[i].map entA).length = ls[i].length:=List.length_map _
  (repeat (first | refine WK ?_ | refine All.i fun X=>?_ | refine AllY.i fun Y=>?_))
  refine AWP.cond_f rfl (decide_eq_false (by omega)) ?_
  (repeat (first | refine WK ?_ | refine All.i fun X=>?_ | refine AllY.i fun Y=>?_))
  exact lp_next2 (i + 1) (s + (ls[i].map entA).length) ⟨h,by omega⟩
 ·have h:i = ls.length:=by rw [decide_eq_false_iff_not,List.length_map] at hc;omega
  subst h
  have hfull:lenToE ls ls.length = ls.flatten.length:=by unfold lenToE;rw [List.take_length]
  subst hs
  have hg:=growNilE_ps (lenToE ls ls.length) (by rw [hfull];exact hb)
  (repeat (first | (refine AOps.gN ?_;first | (refine AOps.g_callf ?_;first | refine AOps.t2 (h:=hg) fun Y=>?_)) | refine WK ?_ | refine All.i fun X=>?_ | refine AllY.i fun Y=>?_))
  refine AWP.lp4 (fun (i Y m:Nat) (L:List AV)=>⟨[(6,.sl Y 0 m),(25,.lst false 58 1 (ls.map fun l=>.lst false 32 2 (l.map entA))),(26,iA (ls.map fun l=>AV.lst false 32 2 (l.map entA)).length),(27,iA i)],(Y,.row 32 2 L) :: Sf⟩) (fun i _ m L=>i ≤ ls.length ∧ m = L.length ∧ L = ((ls.take i).flatten).map entA) (fun i _ _ _=>ls.length - i) 0 Y 0 [] ⟨Nat.zero_le _,rfl,rfl⟩ ?_
  rintro i Y m L ⟨hi,hm,hL⟩
  have hLl:L.length = lenToE ls i:=by rw [hL,List.length_map];rfl
  (repeat (first | refine WK ?_ | refine All.i fun X=>?_ | refine AllY.i fun Y=>?_))
  refine AWP.cond rfl (fun hd=>?_) (fun hd=>?_)
  ·have h:i < ls.length:=by rw [decide_eq_true_eq,List.length_map] at hd;omega
   have hs1:=lenToE_succ h
   have h1:=hle (i + 1)
   have hml:(ls[i].map entA).length = ls[i].length:=List.length_map _
   have hbd:(m + (ls[i].map entA).length) * 16 ≤ 140737488355328:=by omega
   (repeat (first | refine WK ?_ | refine All.i fun X=>?_ | refine AllY.i fun Y=>?_))
   refine lp_next4 (i + 1) Y _ _ ⟨h,?_,?_⟩
   ·rw [List.length_append,hm]
   ·rw [List.take_succ_eq_append_getElem h,List.flatten_append,List.map_append,← hL];simp
  ·have h:i = ls.length:=by rw [decide_eq_false_iff_not,List.length_map] at hd;omega
   subst h
   rw [List.take_length] at hL
   subst hL
   (repeat (first | refine WK ?_ | refine All.i fun X=>?_ | refine AllY.i fun Y=>?_))
   (refine AWP.ret ?_;(repeat (first | refine inB_r ?_ | refine andThen_r ?_));refine retQ_r ?_)
   exact ⟨[.sl Y 0 m],[.lst true 32 2 (ls.flatten.map entA)],_,[],.cons (.tmp rfl) rfl .nil,.cons (.cell (.sl (p:=0) .here hm)) .nil,by exact Sub.f,rfl,rfl⟩
theorem equalFuncK_ps (a b:List Kind) (f:FuncId) (cap:List AV) (p:Kind → Kind → Bool) (hs:st1s cap = true) (hl:a.length ≤ 4611686018427387904) (hf:∀ x ∈ a,∀ y ∈ b,PS Tryz.prog f ((kindA false) x :: (kindA false) y :: cap) (bA (p x y))) :
  PS Tryz.prog 99 [.lst false 83 2 (a.map (kindA false)),.lst false 83 2 (b.map (kindA false)),.fn f cap] (bA (eqF p a b)):=by
 refine Spec.of (nt:=32) (res:=[.tmp 6]) Tryz.func99 rfl (by kernel_rfl) rfl rfl rfl fun Sf=>?_
 (repeat (first | refine WK ?_ | refine All.i fun X=>?_ | refine AllY.i fun Y=>?_))
 refine AWP.cond rfl (fun hb=>?_) (fun hb=>?_)
 ·have hb:a.length ≠ b.length:=by simp at hb;omega
  (repeat (first | refine WK ?_ | refine All.i fun X=>?_ | refine AllY.i fun Y=>?_))
  (refine AWP.ret ?_;(repeat (first | refine inB_r ?_ | refine andThen_r ?_));refine retQ_r ?_);refine Ends.ps ?_
  rw [eqF_len hb]
 ·have hb:a.length = b.length:=by simp at hb;omega
  (repeat (first | refine WK ?_ | refine All.i fun X=>?_ | refine AllY.i fun Y=>?_))
  refine AWP.lp (fun i:Nat=>⟨[(0,.lst false 83 2 (a.map (kindA false))),(1,.lst false 83 2 (b.map (kindA false))),(2,.fn f cap),(15,.lst false 83 2 (a.map (kindA false))),(16,iA (a.map (kindA false)).length),(17,iA i)],Sf⟩) (fun i=>i ≤ a.length ∧ ∀ j (h:j < a.length),j < i → p a[j] (b[j]'(by omega)) = true) (fun i=>a.length - i) 0 ⟨Nat.zero_le _,fun j h hj=>absurd hj (by omega)⟩ ?_
  rintro i ⟨hi,he⟩
  (repeat (first | refine WK ?_ | refine All.i fun X=>?_ | refine AllY.i fun Y=>?_))
  refine AWP.cond rfl (fun hc=>?_) (fun hc=>?_)
  ·have h:i < a.length:=by simpa using hc
   have h':i < b.length:=by omega
   (repeat (first | (refine AOps.gN ?_;first | (refine AOps.g_callv ?_;first | refine AOps.k2 (h:=(hf _ (List.getElem_mem h) _ (List.getElem_mem h'))) (k:=?_))) | refine WK ?_ | refine All.i fun X=>?_ | refine AllY.i fun Y=>?_))
   refine AWP.cond rfl (fun hd=>?_) (fun hd=>?_)
   ·have hd:p a[i] b[i] = false:=by simpa using hd
    (repeat (first | refine WK ?_ | refine All.i fun X=>?_ | refine AllY.i fun Y=>?_))
    (refine AWP.ret ?_;(repeat (first | refine inB_r ?_ | refine andThen_r ?_));refine retQ_r ?_);refine Ends.ps ?_
    rw [eqF_no hb h hd]
   ·have hd:p a[i] b[i] = true:=by simpa using hd
    (repeat (first | refine WK ?_ | refine All.i fun X=>?_ | refine AllY.i fun Y=>?_))
    refine lp_next (i + 1) ⟨h,fun j h1 h2=>?_⟩
    by_cases e:j = i
    ·subst e;exact hd
    ·exact he j h1 (by omega)
  ·have h:¬ i < a.length:=by simpa using hc
   (repeat (first | refine WK ?_ | refine All.i fun X=>?_ | refine AllY.i fun Y=>?_))
   (refine AWP.ret ?_;(repeat (first | refine inB_r ?_ | refine andThen_r ?_));refine retQ_r ?_);refine Ends.ps ?_
   rw [eqF_yes hb fun j hj=>he j hj (by omega)]
theorem sameCompsT1_ps (x y:Comp) (hl:x.vals.length ≤ 1099511627776):PS Tryz.prog 130 [compA false x,compA false y] (bA (decide (x = y))):=by
 have heq:=equalI_ps x.vals y.vals hl
 rw [← compEq]
 refine Spec.of (nt:=17) (res:=[.tmp 4]) Tryz.func130 rfl (by kernel_rfl) rfl rfl rfl fun Sf=>?_
 (repeat refine WF ?_);refine AWP.region ?_;(repeat (first | (refine AOps.gN ?_;first | (refine AOps.g_box ?_;refine AOps.goB ?_)) | refine WO ?_ | refine All.i fun X=>?_ | refine AllY.i fun Y=>?_));refine AOps.nil ?_;(repeat refine WN ?_)
 rcases Bool.eq_false_or_eq_true (decide (x.kind = y.kind)) with g | g
 ·rw [g]
  (repeat (first | (refine AOps.gN ?_;first | (refine AOps.g_callf ?_;first | refine AOps.c2 (h:=(heq ..)) (k:=?_))) | refine WK ?_ | refine All.i fun X=>?_ | refine AllY.i fun Y=>?_))
  (refine AWP.ret ?_;(repeat (first | refine inB_r ?_ | refine andThen_r ?_));refine retQ_r ?_);refine Ends.ps ?_
  rfl
 ·rw [g]
  (repeat (first | refine WK ?_ | refine All.i fun X=>?_ | refine AllY.i fun Y=>?_))
  (refine AWP.ret ?_;(repeat (first | refine inB_r ?_ | refine andThen_r ?_));refine retQ_r ?_);refine Ends.ps ?_
  rfl
theorem sameCompsT_ps (a b:List Comp) (hl:CsL a):PS Tryz.prog 103 [compsA false false a,compsA false false b] (bA (decide (a = b))):=by
 have h:=equalFuncC_ps a b 130 [] (fun x y=>decide (x = y)) rfl (by have:=hl.1;omega) (fun x hx y _=>sameCompsT1_ps x y (hl.2 x hx))
 rw [eqF_eq fun _ _ _ _=>rfl] at h
 refine Spec.of (nt:=8) (res:=[.tmp 4]) Tryz.func103 rfl (by kernel_rfl) rfl rfl rfl fun Sf=>?_
 (repeat (first | (refine AOps.gN ?_;first | (refine AOps.g_callf ?_;first | refine AOps.c3 (h:=(h ..)) (k:=?_))) | refine WK ?_ | refine All.i fun X=>?_ | refine AllY.i fun Y=>?_))
 (refine AWP.ret ?_;(repeat (first | refine inB_r ?_ | refine andThen_r ?_));refine retQ_r ?_);refine Ends.ps ?_
 rfl
theorem sameItemsT1_ps (x y:Item) (hl:CsL x.comps):PS Tryz.prog 102 [itemA false x,itemA false y] (bA (decide (x = y))):=by
 have heq:=sameCompsT_ps x.comps y.comps hl
 rw [← itemEq]
 refine Spec.of (nt:=17) (res:=[.tmp 4]) Tryz.func102 rfl (by kernel_rfl) rfl rfl rfl fun Sf=>?_
 (repeat refine WF ?_);refine AWP.region ?_;(repeat (first | (refine AOps.gN ?_;first | (refine AOps.g_box ?_;refine AOps.goB ?_)) | refine WO ?_ | refine All.i fun X=>?_ | refine AllY.i fun Y=>?_));refine AOps.nil ?_;(repeat refine WN ?_)
 have hE:=entEql x.ent.n x.ent.gen y.ent.n y.ent.gen
 rw [show (decide (x.ent.n = y.ent.n) && decide (x.ent.gen = y.ent.gen)) = sameE x.ent y.ent from rfl] at hE
 cases hb:sameE x.ent y.ent
 ·rw [hb] at hE
  (repeat (first | (refine AOps.gN ?_;first | refine AOps.p (W.eqP _ _ (by kernel_rfl) hE rfl rfl) rfl ?_) | refine WK ?_ | refine All.i fun X=>?_ | refine AllY.i fun Y=>?_))
  (refine AWP.ret ?_;(repeat (first | refine inB_r ?_ | refine andThen_r ?_));refine retQ_r ?_);refine Ends.ps ?_
  rfl
 ·rw [hb] at hE
  (repeat (first | (refine AOps.gN ?_;first | (refine AOps.g_callf ?_;first | refine AOps.c2 (h:=(heq ..)) (k:=?_)) | refine AOps.p (W.eqP _ _ (by kernel_rfl) hE rfl rfl) rfl ?_) | refine WK ?_ | refine All.i fun X=>?_ | refine AllY.i fun Y=>?_))
  (refine AWP.ret ?_;(repeat (first | refine inB_r ?_ | refine andThen_r ?_));refine retQ_r ?_);refine Ends.ps ?_
  rfl
theorem sameItemsT_ps (a b:List Item) (hl:ItL a):PS Tryz.prog 58 [itemsA false false a,itemsA false false b] (bA (decide (a = b))):=by
 have h:=equalFuncT_ps a b 102 [] (fun x y=>decide (x = y)) rfl (by have:=hl.1;omega) (fun x hx y _=>sameItemsT1_ps x y (hl.2 x hx))
 rw [eqF_eq fun _ _ _ _=>rfl] at h
 refine Spec.of (nt:=8) (res:=[.tmp 4]) Tryz.func58 rfl (by kernel_rfl) rfl rfl rfl fun Sf=>?_
 (repeat (first | (refine AOps.gN ?_;first | (refine AOps.g_callf ?_;first | refine AOps.c3 (h:=(h ..)) (k:=?_))) | refine WK ?_ | refine All.i fun X=>?_ | refine AllY.i fun Y=>?_))
 (refine AWP.ret ?_;(repeat (first | refine inB_r ?_ | refine andThen_r ?_));refine retQ_r ?_);refine Ends.ps ?_
 rfl
theorem equalF_ps (a b:List Field) (hl:a.length ≤ 1099511627776):PS Tryz.prog 101 [fieldsA false a,fieldsA false b] (bA (decide (a = b))):=by
 refine Spec.of (nt:=26) (res:=[.tmp 4]) Tryz.func101 rfl (by kernel_rfl) rfl rfl rfl fun Sf=>?_
 (repeat (first | refine WK ?_ | refine All.i fun X=>?_ | refine AllY.i fun Y=>?_))
 refine AWP.cond rfl (fun hb=>?_) (fun hb=>?_)
 ·have hb:a.length ≠ b.length:=by simp at hb;omega
  (repeat (first | refine WK ?_ | refine All.i fun X=>?_ | refine AllY.i fun Y=>?_))
  (refine AWP.ret ?_;(repeat (first | refine inB_r ?_ | refine andThen_r ?_));refine retQ_r ?_);refine Ends.ps ?_
  rw [decide_eq_false fun e=>hb (by rw [e])]
 ·have hb:a.length = b.length:=by simp at hb;omega
  (repeat (first | refine WK ?_ | refine All.i fun X=>?_ | refine AllY.i fun Y=>?_))
  refine AWP.lp (fun i:Nat=>⟨[(0,fieldsA false a),(1,fieldsA false b),(12,iA (a.map fieldA).length),(13,iA i)],Sf⟩) (fun i=>i ≤ a.length ∧ ∀ j (h:j < a.length),j < i → a[j] = b[j]'(by omega)) (fun i=>a.length - i) 0 ⟨Nat.zero_le _,fun j h hj=>absurd hj (by omega)⟩ ?_
  rintro i ⟨hi,he⟩
  (repeat (first | refine WK ?_ | refine All.i fun X=>?_ | refine AllY.i fun Y=>?_))
  refine AWP.cond rfl (fun hc=>?_) (fun hc=>?_)
  ·have h:i < a.length:=by simpa using hc
   have h':i < b.length:=by omega
   obtain ⟨f,hf⟩:∃ f,a[i] = f:=⟨_,rfl⟩
   obtain ⟨g,hg⟩:∃ g,b[i] = g:=⟨_,rfl⟩
   have haf:(a.map fieldA)[i]? = some (fieldA f):=by rw [List.getElem?_map,List.getElem?_eq_getElem h,hf];rfl
   have hag:(b.map fieldA)[i]? = some (fieldA g):=by rw [List.getElem?_map,List.getElem?_eq_getElem h',hg];rfl
   (repeat (first | refine WK ?_ | refine All.i fun X=>?_ | refine AllY.i fun Y=>?_))
   (repeat refine WF ?_);refine AWP.region_run (by kernel_rfl) (by kernel_rfl) ?_;(repeat (first | (refine RGo.gN ?_;first | refine RGo.p (W.neP _ _ (by kernel_rfl) (fieldNeq f g) rfl rfl) rfl ?_) | (refine RGo.gQ ?_;first | refine RGo.p (W.neP _ _ (by kernel_rfl) (fieldNeq f g) rfl rfl) rfl ?_) | refine RK ?_ | refine RGo.nil (by kernel_rfl) ?_))
   (repeat (first | refine WK ?_ | refine All.i fun X=>?_ | refine AllY.i fun Y=>?_))
   refine AWP.cond rfl (fun hd=>?_) (fun hd=>?_)
   ·have hd:f ≠ g:=by simpa using hd
    (repeat (first | refine WK ?_ | refine All.i fun X=>?_ | refine AllY.i fun Y=>?_))
    (refine AWP.ret ?_;(repeat (first | refine inB_r ?_ | refine andThen_r ?_));refine retQ_r ?_);refine Ends.ps ?_
    rw [decide_eq_false fun e=>hd (by subst e;rw [← hf,← hg])]
   ·have hd:f = g:=by simpa using hd
    (repeat (first | refine WK ?_ | refine All.i fun X=>?_ | refine AllY.i fun Y=>?_))
    refine lp_next (i + 1) ⟨h,fun j h1 h2=>?_⟩
    by_cases e:j = i
    ·subst e;rw [hf,hg,hd]
    ·exact he j h1 (by omega)
  ·have h:¬ i < a.length:=by simpa using hc
   (repeat (first | refine WK ?_ | refine All.i fun X=>?_ | refine AllY.i fun Y=>?_))
   (refine AWP.ret ?_;(repeat (first | refine inB_r ?_ | refine andThen_r ?_));refine retQ_r ?_);refine Ends.ps ?_
   rw [decide_eq_true (List.ext_getElem hb fun j h1 h2=>he j h1 (by omega))]
theorem kindEq (x y:Kind):(decide (x.name = y.name) && decide (x.fields = y.fields)) = decide (x = y):=by
 obtain ⟨k,v⟩:=x
 obtain ⟨k',v'⟩:=y
 rw [Bool.eq_iff_iff]
 simp
theorem sameKindsT1_ps (x y:Kind) (hl:x.fields.length ≤ 1099511627776):PS Tryz.prog 100 [kindA false x,kindA false y] (bA (decide (x = y))):=by
 have heq:=equalF_ps x.fields y.fields hl
 rw [← kindEq]
 refine Spec.of (nt:=17) (res:=[.tmp 4]) Tryz.func100 rfl (by kernel_rfl) rfl rfl rfl fun Sf=>?_
 (repeat refine WF ?_);refine AWP.region ?_;(repeat (first | (refine AOps.gN ?_;first | (refine AOps.g_box ?_;refine AOps.goB ?_)) | refine WO ?_ | refine All.i fun X=>?_ | refine AllY.i fun Y=>?_));refine AOps.nil ?_;(repeat refine WN ?_)
 rcases Bool.eq_false_or_eq_true (decide (x.name = y.name)) with g | g
 ·rw [g]
  (repeat (first | (refine AOps.gN ?_;first | (refine AOps.g_callf ?_;first | refine AOps.c2 (h:=(heq ..)) (k:=?_))) | refine WK ?_ | refine All.i fun X=>?_ | refine AllY.i fun Y=>?_))
  (refine AWP.ret ?_;(repeat (first | refine inB_r ?_ | refine andThen_r ?_));refine retQ_r ?_);refine Ends.ps ?_
  rfl
 ·rw [g]
  (repeat (first | refine WK ?_ | refine All.i fun X=>?_ | refine AllY.i fun Y=>?_))
  (refine AWP.ret ?_;(repeat (first | refine inB_r ?_ | refine andThen_r ?_));refine retQ_r ?_);refine Ends.ps ?_
  rfl
theorem sameKindsT_ps (a b:List Kind) (hl:KsL a):PS Tryz.prog 57 [kindsA false false a,kindsA false false b] (bA (decide (a = b))):=by
 have h:=equalFuncK_ps a b 100 [] (fun x y=>decide (x = y)) rfl (by have:=hl.1;omega) (fun x hx y _=>sameKindsT1_ps x y (hl.2 x hx))
 rw [eqF_eq fun _ _ _ _=>rfl] at h
 refine Spec.of (nt:=8) (res:=[.tmp 4]) Tryz.func57 rfl (by kernel_rfl) rfl rfl rfl fun Sf=>?_
 (repeat (first | (refine AOps.gN ?_;first | (refine AOps.g_callf ?_;first | refine AOps.c3 (h:=(h ..)) (k:=?_))) | refine WK ?_ | refine All.i fun X=>?_ | refine AllY.i fun Y=>?_))
 (refine AWP.ret ?_;(repeat (first | refine inB_r ?_ | refine andThen_r ?_));refine retQ_r ?_);refine Ends.ps ?_
 rfl
set_option maxRecDepth 4000 in
theorem sameT_ps (a b:Wd) (hl:WdL a):PS Tryz.prog 19 [wdA false a,wdA false b] (bA (decide (a = b))):=by
 have h1:=sameKindsT_ps a.kinds b.kinds hl.ks
 have h2:=equalI_ps a.gens b.gens hl.gens
 have h3:=sameItemsT_ps a.items b.items hl.items
 rw [← wdEq]
 refine Spec.of (nt:=24) (res:=[.tmp 4]) Tryz.func19 rfl (by kernel_rfl) rfl rfl rfl fun Sf=>?_
 (repeat refine WF ?_);refine AWP.region ?_;(repeat (first | (refine AOps.gN ?_;first | (refine AOps.g_box ?_;refine AOps.goB ?_)) | refine WO ?_ | refine All.i fun X=>?_ | refine AllY.i fun Y=>?_));refine AOps.nil ?_;(repeat refine WN ?_)
 obtain ⟨b1,e1⟩:∃ b1,decide (a.kinds = b.kinds) = b1:=⟨_,rfl⟩
 obtain ⟨b2,e2⟩:∃ b2,decide (a.gens = b.gens) = b2:=⟨_,rfl⟩
 rw [e1] at h1 ⊢
 rw [e2] at h2 ⊢
 cases b1
 ·(repeat (first | (refine AOps.gN ?_;first | (refine AOps.g_callf ?_;first | refine AOps.c2 (h:=(h1 ..)) (k:=?_))) | refine WK ?_ | refine All.i fun X=>?_ | refine AllY.i fun Y=>?_))
  (refine AWP.ret ?_;(repeat (first | refine inB_r ?_ | refine andThen_r ?_));refine retQ_r ?_);refine Ends.ps ?_
  rfl
 ·cases b2
  ·(repeat (first | (refine AOps.gN ?_;first | (refine AOps.g_callf ?_;first | refine AOps.c2 (h:=(h1 ..)) (k:=?_) | refine AOps.c2 (h:=(h2 ..)) (k:=?_))) | refine WK ?_ | refine All.i fun X=>?_ | refine AllY.i fun Y=>?_))
   (refine AWP.ret ?_;(repeat (first | refine inB_r ?_ | refine andThen_r ?_));refine retQ_r ?_);refine Ends.ps ?_
   rfl
  ·(repeat (first | (refine AOps.gN ?_;first | (refine AOps.g_callf ?_;first | refine AOps.c2 (h:=(h1 ..)) (k:=?_) | refine AOps.c2 (h:=(h2 ..)) (k:=?_) | refine AOps.c2 (h:=(h3 ..)) (k:=?_))) | refine WK ?_ | refine All.i fun X=>?_ | refine AllY.i fun Y=>?_))
   (refine AWP.ret ?_;(repeat (first | refine inB_r ?_ | refine andThen_r ?_));refine retQ_r ?_);refine Ends.ps ?_
   rfl
section
open Go.RowKit
def baseM (w:World):Mem:=⟨fun _=>none,fun _=>False,w,fun b=>b < w.heap.size⟩
theorem baseM_good (w:World):Good (baseM w) (baseM w) 0 [] [] :=
 ⟨fun z hz=>(by cases hz),.nil,fun b hb=>(by cases hb),fun b h=>h,.nil,fun x hx=>(by cases hx),fun x h=>h.elim,.refl _,rfl,rfl,rfl,Nat.le_refl _⟩
theorem Good.bel {w:World} {m':Mem} {N:Nat} {Z:Zs} {br:List Nat} (G:Good (baseM w) m' N Z br):Below w.heap.size w m'.w :=
 ⟨G.os,G.tape,G.output,G.size,fun k hk=>(G.le.F k hk).2⟩
theorem PS.calls_bool {P:Program} {f:FuncId} {args:List AV} {b:Bool} (h:PS P f args (bA b)) {w:World} {vals:Array Value} (hv:VTs (baseM w) args vals.toList []) :
  Calls P f vals w fun e w'=>e = .returned (.bool b) ∧ Below w.heap.size w w' :=
 (h.run [] (baseM w) 0 [] vals rfl (baseM_good w) hv).mono fun e w' ⟨v,r,S',m',N',Z',br,h1,h2,h3,G,h4,h5,h6⟩=>by
  subst h1 h2 h5
  refine ⟨?_,G.bel⟩
  obtain ⟨⟨h7,_⟩,_⟩:=h4
  injection h7 with h7
  rw [h7]
theorem cells_vcs {α:Type} {m:Mem} {C:List Value → α → Prop} {sz:Nat} {f:α → AV} (hC:∀ c x,C c x → VC m (f x) c []):∀ {l:List α} {xs:List Value},Cells C sz xs l → VCs m (l.map f) xs []
 | [],_,h=>⟨h,rfl⟩
 | x :: l,_,⟨c,ys,h1,h2,h3,h4⟩=>⟨c,ys,[],[],h1,rfl,hC c x h3,cells_vcs hC h4⟩
theorem cell_block {w:World} {b o:Nat} {u:Value} (h:w.cell? ⟨b,o,none⟩ = some u):∃ arr t r,w.heap[b]? = some (.cells arr t r) ∧ arr[o]? = some u:=by
 unfold World.cell? at h
 cases hb:w.heap[b]? with
 | none=>simp only [hb] at h;cases h
 | some blk =>
  cases blk with
  | cells c t r=>simp only [hb] at h;exact ⟨c,t,r,rfl,by simpa using h⟩
  | _=>simp only [hb] at h;cases h
theorem sl_vc {α:Type} {w:World} {C:World → Reg → List Value → α → Prop} {sz:Nat} {f:α → AV} {t:TypeId} {v:Value} {l:List α} (hsz:0 < sz) (hC:∀ c x,C w (Lt w) c x → VC (baseM w) (f x) c []) (hw:∀ x,(f x).width = sz) (h:Sl w (Lt w) sz C v l):VC (baseM w) (.lst false t sz (l.map f)) [v] []:=by
 obtain ⟨xs,⟨h1,A,cap,rfl,hn,hr⟩,hc⟩:=h
 refine ⟨rfl,A,cap,by simp,by simpa using hn,fun e he=>by obtain ⟨x,_,rfl⟩:=List.mem_map.1 he;exact hw x,fun h0=>?_⟩
 have h0:0 < l.length:=by simpa using h0
 obtain ⟨b,off,rfl,hb,hcell⟩:=hr h0
 have hx:0 < xs.length:=by rw [h1];exact Nat.mul_pos h0 hsz
 obtain ⟨arr,t',r,h2,h3⟩:=cell_block (hcell 0 xs[0] (by simp))
 refine ⟨b,off,arr,t',r,rfl,hb,h2,?_⟩
 have e:(arr.toList.drop off).take ((l.map f).length * sz) = xs:=by
  apply List.ext_getElem?
  intro j
  rw [List.getElem?_take]
  split
  ·rename_i hj
   have hj:j < xs.length:=by rw [h1];simpa using hj
   obtain ⟨arr2,t2,r2,h4,h5⟩:=cell_block (hcell j xs[j] (by simp))
   rw [h2] at h4
   injection h4 with h4
   injection h4 with h4
   subst h4
   rw [List.getElem?_drop,List.getElem?_eq_getElem hj]
   simpa using h5
  ·rename_i hj
   rw [List.getElem?_eq_none]
   rw [h1];simpa using hj
 rw [e]
 exact cells_vcs hC hc
theorem ints_vc {w:World} {v:Value} {l:List Int} (h:Ints w (Lt w) v l):VC (baseM w) (intsA false l) [v] [] :=
 sl_vc (f:=iA) (by decide) (fun c x hc=>⟨⟨hc,rfl⟩,rfl⟩) (fun _=>rfl) h
theorem vts_nil {m:Mem}:VTs m [] [] []:=⟨rfl,rfl⟩
theorem vts_ints {w:World} {v:Value} {z:List Int} {l:List AV} {us:List Value} (h:Ints w (Lt w) v z) (k:VTs (baseM w) l us []):VTs (baseM w) (intsA false z :: l) (v :: us) []:=(VTs_cons rfl).2 ⟨_,_,[],[],rfl,rfl,ints_vc h,k⟩
end
section
open Go.RowKit
theorem CmdsL.app {ks:List Kind} {l m:List Cmd} (h:CmdsL ks l) (k:CmdsL ks m):CmdsL ks (l ++ m) :=
 ⟨fun c hc=>(List.mem_append.1 hc).elim (h.ok c) (k.ok c),fun c hc=>(List.mem_append.1 hc).elim (h.n c) (k.n c),fun c hc=>(List.mem_append.1 hc).elim (h.l c) (k.l c)⟩
theorem runW_entsS:∀ (l:List Cmd) (w:Wd),(runW w l).2.1.length ≤ l.length
 | [],w=>Nat.le_refl _
 | c :: l,w=>by
  have:=runW_entsS l (actW w c).1
  rw [runW,List.length_cons]
  dsimp only
  split
  ·rw [List.length_cons];omega
  ·omega
set_option maxRecDepth 8000 in
theorem cmdSplits_ps (l m o:List Int) (hl:l.length * 8 ≤ 140737488351232) (hm:m.length * 8 ≤ 140737488351232) (ho:o.length * 8 ≤ 140737488351232):PS Tryz.prog 6 [intsA false l,intsA false m,intsA false o] (bA true):=by
 have hwp:=world_ps l
 have hok:=genWorld_ok l
 obtain ⟨hk0,hk4⟩:=genWorld_ks l
 obtain ⟨w,hw⟩:∃ w,genWorld l = w:=⟨_,rfl⟩
 rw [hw] at hwp hok hk0 hk4
 clear hw
 have c1:=cmds_ps w m hok hk0 hm
 have c2:=cmds_ps w o hok hk0 ho
 have l1:=cmdsOf_len w m
 have l2:=cmdsOf_len w o
 obtain ⟨o1,s1⟩:=cmdsOf_ok hok hk0 m
 obtain ⟨o2,s2⟩:=cmdsOf_ok hok hk0 o
 obtain ⟨a,ha⟩:∃ c,cmdsOf w m = c:=⟨_,rfl⟩
 obtain ⟨b,hb⟩:∃ c,cmdsOf w o = c:=⟨_,rfl⟩
 rw [ha] at c1 l1 o1 s1
 rw [hb] at c2 l2 o2 s2
 have hj:=cmdJoin_ps [a,b] (by show 2 ≤ 1000;decide) (by simp;omega) (fun x hx c hc=>by
  simp only [List.mem_cons,List.not_mem_nil,or_false] at hx
  rcases hx with rfl | rfl
  ·exact s1 c hc
  ·exact s2 c hc)
 have hfl:[a,b].flatten = a ++ b:=by simp
 rw [hfl] at hj
 have p1:=apply_ps w (a ++ b) hok (by omega) (by rw [List.length_append];omega) (o1.app o2)
 have p2:=apply_ps w a hok (by omega) (by omega) o1
 obtain ⟨hv1,hv2⟩:=runW_ok hok o1.ok
 have o3:CmdsL (runW w a).1.kinds b:=by rw [hv2];exact o2
 have p3:=apply_ps (runW w a).1 b hv1 (by rw [hv2];omega) (by omega) o3
 have hap:=runW_app a b w
 rw [hap] at p1
 have hq1:=runW_entsS a w
 have hq2:=runW_entsS b (runW w a).1
 have hw2:=(runW_ok hv1 o3.ok).1
 obtain ⟨⟨v,x,ds⟩,hv⟩:∃ q,runW w a = q:=⟨_,rfl⟩
 rw [hv] at p1 p2 p3 hv1 hq1 hq2 hw2
 dsimp only at p1 p2 p3 hv1 hq1 hq2 hw2
 obtain ⟨⟨u,y,es⟩,hu⟩:∃ q,runW v b = q:=⟨_,rfl⟩
 rw [hu] at p1 p3 hq2 hw2
 dsimp only at p1 p3 hq2 hw2
 have e1:=sameT_ps u u hw2.wl
 rw [decide_eq_true rfl] at e1
 have e2:=equalE_ps (x ++ y) (x ++ y) (by rw [List.length_append];omega)
 rw [decide_eq_true rfl] at e2
 have hcc:=concatE_ps [x,y] (by show 2 ≤ 4611686018427387903;decide) (by simp;omega)
 have hfl2:[x,y].flatten = x ++ y:=by simp
 rw [hfl2] at hcc
 refine Spec.of (nt:=86) (res:=[.tmp 6]) Tryz.func6 rfl (by kernel_rfl) rfl rfl rfl fun Sf=>?_
 (repeat refine WF ?_);refine AWP.region ?_;(repeat (first | refine WO ?_ | refine All.i fun X=>?_ | refine AllY.i fun Y=>?_));refine AOps.nil ?_;(repeat refine WN ?_)
 (repeat first | refine AOps.nil ?_ | refine WF ?_)
 (repeat refine WF ?_);refine AWP.region ?_;(repeat (first | (refine AOps.gN ?_;first | (refine AOps.g_callf ?_;first | refine AOps.c0 (h:=(killed_ps ..)) (k:=?_))) | refine WO ?_ | refine All.i fun X=>?_ | refine AllY.i fun Y=>?_));refine AOps.nil ?_;(repeat refine WN ?_)
 refine AWP.cond_f rfl rfl ?_
 (repeat first | refine AOps.nil ?_ | refine WF ?_)
 (repeat refine WF ?_);refine AWP.region ?_;(repeat (first | (refine AOps.gN ?_;first | (refine AOps.g_callf ?_;first | refine AOps.c1 (h:=(hwp ..)) (k:=?_))) | refine WO ?_ | refine All.i fun V1=>?_ | refine AllY.i fun Y=>?_));refine AOps.nil ?_;(repeat refine WN ?_)
 (repeat first | refine AOps.nil ?_ | refine WF ?_)
 (repeat refine WF ?_);refine AWP.region_run (by kernel_rfl) (by kernel_rfl) ?_;(repeat (first | (refine RGo.gN ?_;first | (refine RGo.g_callf ?_;first | refine RGo.c2 (h:=(c1 ..)) (k:=?_) | refine RGo.c2 (h:=(c2 ..)) (k:=?_))) | (refine RGo.gQ ?_;first | (refine RGo.g_callf ?_;first | refine RGo.c2 (h:=(c1 ..)) (k:=?_) | refine RGo.c2 (h:=(c2 ..)) (k:=?_))) | refine RK ?_ | refine RGo.nil (by kernel_rfl) ?_))
 (repeat first | refine AOps.nil ?_ | refine WF ?_)
 (repeat refine WF ?_);refine AWP.region ?_;(repeat (first | (refine AOps.gN ?_;first | (refine AOps.g_callf ?_;first | refine AOps.c1 (h:=(hj ..)) (k:=?_))) | refine WO ?_ | refine All.i fun X=>?_ | refine AllY.i fun Y=>?_));refine AOps.nil ?_;(repeat refine WN ?_)
 (repeat first | refine AOps.nil ?_ | refine WF ?_)
 (repeat refine WF ?_);refine AWP.region ?_;(repeat (first | (refine AOps.gN ?_;first | (refine AOps.g_callf ?_;first | refine AOps.c2 (h:=(p1 ..)) (k:=?_))) | refine WO ?_ | refine All.i fun V2=>?_ | refine AllY.i fun Y=>?_));refine AOps.nil ?_;(repeat refine WN ?_)
 (repeat first | refine AOps.nil ?_ | refine WF ?_)
 (repeat refine WF ?_);refine AWP.region ?_;(repeat (first | (refine AOps.gN ?_;first | (refine AOps.g_callf ?_;first | refine AOps.c2 (h:=(p2 ..)) (k:=?_))) | refine WO ?_ | refine All.i fun V3=>?_ | refine AllY.i fun Y=>?_));refine AOps.nil ?_;(repeat refine WN ?_)
 (repeat first | refine AOps.nil ?_ | refine WF ?_)
 (repeat refine WF ?_);refine AWP.region ?_;(repeat (first | (refine AOps.gN ?_;first | (refine AOps.g_callf ?_;first | refine AOps.c2 (h:=(p3 ..)) (k:=?_))) | refine WO ?_ | refine All.i fun V4=>?_ | refine AllY.i fun Y=>?_));refine AOps.nil ?_;(repeat refine WN ?_)
 (repeat first | refine AOps.nil ?_ | refine WF ?_)
 (repeat refine WF ?_);refine AWP.region ?_;(repeat (first | (refine AOps.gN ?_;first | (refine AOps.g_callf ?_;first | refine AOps.c2 (h:=(e1 ..)) (k:=?_) | refine AOps.c1 (h:=(hcc ..)) (k:=?_) | refine AOps.c2 (h:=(e2 ..)) (k:=?_))) | refine WO ?_ | refine All.i fun X=>?_ | refine AllY.i fun Y=>?_));refine AOps.nil ?_;(repeat refine WN ?_)
 (refine AWP.ret ?_;(repeat (first | refine inB_r ?_ | refine andThen_r ?_));refine retQ_r ?_);refine Ends.ps ?_
 rfl
theorem cmdSplits_calls (z0:List Int) (A0:Option Addr) (n0 cap0:Nat) (z1:List Int) (A1:Option Addr) (n1 cap1:Nat) (z2:List Int) (A2:Option Addr) (n2 cap2:Nat) (w:World) (h0:Ints w (Lt w) (.slice A0 n0 cap0) z0) (hlen0:z0.length * 8 ≤ 140737488351232) (h1:Ints w (Lt w) (.slice A1 n1 cap1) z1) (hlen1:z1.length * 8 ≤ 140737488351232) (h2:Ints w (Lt w) (.slice A2 n2 cap2) z2) (hlen2:z2.length * 8 ≤ 140737488351232) :
  Calls Tryz.prog 6 #[.slice A0 n0 cap0,.slice A1 n1 cap1,.slice A2 n2 cap2] w fun e w'=>e = .returned (.bool true) ∧ Below w.heap.size w w' :=
 (cmdSplits_ps z0 z1 z2 hlen0 hlen1 hlen2).calls_bool (vts_ints h0 (vts_ints h1 (vts_ints h2 (vts_nil))))
end
end Go.Proofs.YtnlekapghebhlaaGreat
