/-
  Part 5 of the texts under the law QueryOver: the layer of abstract values, walks and plain laws. Conditions: those that each theorem names.
-/
import Derived.Sort.AssemblyPlain
import Derived.Below
import Derived.Test.YtnlekapghebhlaaQueryOverP4
namespace Go.Proofs.Ytnlekapghebhlaa
set_option linter.unusedVariables false
set_option linter.unusedSimpArgs false
theorem vAt_len (fs:List Field) (l:List Int) (i:Nat):(vAt fs l i).1.length ≤ i:=by
 induction i with
 | zero=>simp [vAt]
 | succ i ih=>rw [vAt];split <;> (try simp only [List.length_append,List.length_singleton]) <;> omega
theorem cAt_len (ks:List Kind) (l:List Int) (i:Nat):(cAt ks l i).1.length ≤ i:=by
 induction i with
 | zero=>simp [cAt]
 | succ i ih=>rw [cAt];split <;> (try split) <;> (try simp only [List.length_append,List.length_singleton]) <;> omega
theorem vAt_next {fs:List Field} {l:List Int} {i:Nat} (h:i < fs.length):vAt fs l (i + 1) = ((vAt fs l i).1 ++ [fs[i].low + nextV (vAt fs l i).2 (2 ^ fs[i].bits.toNat)],nextL (vAt fs l i).2 (2 ^ fs[i].bits.toNat)):=by
 rw [vAt,List.getElem?_eq_getElem h]
theorem cAt_no {ks:List Kind} {l:List Int} {i:Nat} (h:i < ks.length) (h2:nextV (cAt ks l i).2 3 = 2):cAt ks l (i + 1) = ((cAt ks l i).1,nextL (cAt ks l i).2 3):=by
 rw [cAt,List.getElem?_eq_getElem h];simp only;rw [if_pos h2]
theorem cAt_yes {ks:List Kind} {l:List Int} {i:Nat} (h:i < ks.length) (h2:nextV (cAt ks l i).2 3 ≠ 2):cAt ks l (i + 1) = ((cAt ks l i).1 ++ [⟨i,(vAt ks[i].fields (nextL (cAt ks l i).2 3) ks[i].fields.length).1⟩],(vAt ks[i].fields (nextL (cAt ks l i).2 3) ks[i].fields.length).2):=by
 rw [cAt,List.getElem?_eq_getElem h];simp only;rw [if_neg h2]
theorem pow_small {b:Nat} (h:b ≤ 32):(1:Int) ≤ 2 ^ b ∧ (2:Int) ^ b ≤ 4294967296:=by
 have h1:(2:Nat) ^ b ≤ 2 ^ 32:=Nat.pow_le_pow_right (by decide) h
 have h2:0 < (2:Nat) ^ b:=Nat.pow_pos (by decide)
 have h3:((2:Int) ^ b) = (((2:Nat) ^ b:Nat):Int):=by simp
 rw [h3]
 have:(2:Nat) ^ 32 = 4294967296:=by decide
 omega
theorem comps_po (G:Nat) (ks:List Kind) (l:List Int) (hk:KindsOK ks):PO Try.prog 35 [kindsA false false ks,.ptr G 0 0] G (streamO l) (compsA true false (genComps ks l).1) (streamO (genComps ks l).2):=by
 refine Spec.of (nt:=50) (res:=[.tmp 4]) Try.func35 rfl (by kernel_rfl) rfl rfl rfl fun Sf=>?_
 obtain ⟨hk0,hk1⟩:=hk
 (repeat refine WF ?_);refine AWP.region ?_;(repeat (first | refine WO ?_ | refine All.i fun X=>?_ | refine AllY.i fun Y=>?_));refine AOps.nil ?_;(repeat refine WN ?_)
 (repeat refine WF ?_);refine AWP.region ?_;(repeat (first | refine WO ?_ | refine All.i fun X=>?_ | refine AllY.i fun Y=>?_));refine AOps.nil ?_;(repeat refine WN ?_)
 (repeat refine WF ?_);refine AWP.region ?_;(repeat (first | refine WO ?_ | refine All.i fun X=>?_ | refine AllY.i fun Y=>?_));refine AOps.nil ?_;(repeat refine WN ?_)
 (repeat first | refine AOps.nil ?_ | refine WF ?_)
 refine AWP.adopt (d:=5) 58 2 rfl fun K=>?_
 refine AWP.lp5 (fun (i K:Nat) (M:List AV) (n:Nat) (q:List Int)=>⟨[(1,.ptr G 0 0),(5,.sl K 0 n),(11,kindsA false false ks),(12,iA (ks.map (kindA false)).length),(13,iA i)],(K,.row 58 2 M) :: (G,streamO q) :: Sf⟩) (fun i _ M n q=>i ≤ ks.length ∧ M = (cAt ks l i).1.map (compA false) ∧ n = M.length ∧ q = (cAt ks l i).2) (fun i _ _ _ _=>ks.length - i) 0 K [] 0 l ⟨Nat.zero_le _,rfl,rfl,rfl⟩ ?_
 rintro i K M n q ⟨hi,hM,hn,hq⟩
 (repeat (first | refine WK ?_ | refine All.i fun X=>?_ | refine AllY.i fun Y=>?_))
 refine AWP.cond rfl (fun hc=>?_) (fun hc=>?_)
 ·have h:i < ks.length:=by simpa using hc
  obtain ⟨hf0,hf1⟩:=hk1 _ (List.getElem_mem h)
  have h3:=nextV_range q (n:=3) (by decide)
  have hn1:n + 1 ≤ 1099511627776:=by have:=cAt_len ks l i;rw [hn,hM,List.length_map];omega
  (repeat (first | (refine AOps.gN ?_;first | (refine AOps.g_callf ?_;first | refine AOps.o2 (h:=(next_po G _ _ (by decide))) (k:=?_))) | refine WK ?_ | refine All.i fun X=>?_ | refine AllY.i fun Y=>?_))
  refine AWP.cond rfl (fun he=>?_) (fun he=>?_)
  ·have he:nextV q 3 = 2:=by simpa using he
   (repeat (first | refine WK ?_ | refine All.i fun X=>?_ | refine AllY.i fun Y=>?_))
   refine lp_next5 (i + 1) K M n _ ⟨h,?_,hn,?_⟩
   ·rw [cAt_no h (hq ▸ he),hM]
   ·rw [cAt_no h (hq ▸ he),hq]
  ·have he:nextV q 3 ≠ 2:=by simpa using he
   (repeat refine WF ?_);refine AWP.region ?_;(repeat (first | refine WO ?_ | refine All.i fun Y=>?_ | refine AllY.i fun Y=>?_));refine AOps.nil ?_;(repeat refine WN ?_)
   refine AWP.adoptIn (Y:=Y) 3 1 .here (fun F=>.cons (.agg (.cons .same (.cons (.base .nil) .nil))) .nil) fun F=>?_
   (repeat (first | refine WK ?_ | refine All.i fun X=>?_ | refine AllY.i fun Y=>?_))
   obtain ⟨fs,hfs⟩:∃ fs,ks[i].fields = fs:=⟨_,rfl⟩
   obtain ⟨q1,hq1⟩:∃ q1,nextL q 3 = q1:=⟨_,rfl⟩
   rw [hq1,hfs]
   have hck:cAt ks l (i + 1) = ((cAt ks l i).1 ++ [⟨i,(vAt fs q1 fs.length).1⟩],(vAt fs q1 fs.length).2):=by rw [cAt_yes h (hq ▸ he),← hq,hq1,hfs]
   rw [hfs] at hf0 hf1
   refine AWP.lp5 (fun (j F:Nat) (L:List AV) (m:Nat) (r:List Int)=>⟨[(1,.ptr G 0 0),(5,.sl K 0 n),(6,iA i),(8,.ptr Y 0 0),(11,kindsA false false ks),(12,iA (ks.map (kindA false)).length),(13,iA i),(24,fieldsA false fs),(25,iA (fs.map fieldA).length),(26,iA j)],(F,.row 3 1 L) :: (Y,.row 58 2 [.agg [iA i,.sl F 0 m]]) :: (K,.row 58 2 M) :: (G,streamO r) :: Sf⟩) (fun j _ L m r=>j ≤ fs.length ∧ L = (vAt fs q1 j).1.map iA ∧ m = L.length ∧ r = (vAt fs q1 j).2) (fun j _ _ _ _=>fs.length - j) 0 F [] 0 q1 ⟨Nat.zero_le _,rfl,rfl,rfl⟩ ?_
   rintro j F L m r ⟨hj,hL,hm,hr⟩
   (repeat (first | refine WK ?_ | refine All.i fun X=>?_ | refine AllY.i fun Y=>?_))
   refine AWP.cond rfl (fun hd=>?_) (fun hd=>?_)
   ·have hj':j < fs.length:=by simpa using hd
    obtain ⟨hb0,hb1,hl0,hl1⟩:=hf1 _ (List.getElem_mem hj')
    obtain ⟨b,hb⟩:∃ b:Nat,fs[j].bits = b:=⟨fs[j].bits.toNat,by omega⟩
    have hp:=pow_small (b:=b) (by omega)
    have hw:IntKind.i64.wrap (1 * 2 ^ b) = 2 ^ b:=by rw [Int.one_mul];exact wrap_id (by omega) (by omega)
    have hv:=nextV_range r (n:=IntKind.i64.wrap (1 * 2 ^ b)) (by omega)
    have hm1:m + 1 ≤ 1099511627776:=by have:=vAt_len fs q1 j;rw [hm,hL,List.length_map];omega
    (repeat (first | refine WK ?_ | refine All.i fun Z=>?_ | refine AllY.i fun Y=>?_))
    refine AWP.rs fun X7=>?_
    (repeat refine WF ?_);refine AWP.region_run (by kernel_rfl) (by kernel_rfl) ?_;(repeat (first | (refine RGo.gN ?_;first | (refine RGo.g_callf ?_;first | refine RGo.o2 (h:=(next_po G _ _ (by rw [hw];omega))) (k:=?_)) | refine RGo.p (W.shl rfl rfl hb (by show b ≤ 64;omega)) rfl ?_ | refine RGo.p (W.add rfl rfl (by omega)) rfl ?_) | (refine RGo.gQ ?_;first | (refine RGo.g_callf ?_;first | refine RGo.o2 (h:=(next_po G _ _ (by rw [hw];omega))) (k:=?_)) | refine RGo.p (W.shl rfl rfl hb (by show b ≤ 64;omega)) rfl ?_ | refine RGo.p (W.add rfl rfl (by omega)) rfl ?_) | refine RK ?_ | refine RGo.nil (by kernel_rfl) ?_))
    (repeat (first | refine WK ?_ | refine All.i fun X=>?_ | refine AllY.i fun Y=>?_))
    have hva:vAt fs q1 (j + 1) = ((vAt fs q1 j).1 ++ [fs[j].low + nextV r (IntKind.i64.wrap (1 * 2 ^ b))],nextL r (IntKind.i64.wrap (1 * 2 ^ b))):=by rw [vAt_next hj',← hr,hw,hb];rfl
    refine lp_next5 (j + 1) X7 _ _ _ ⟨hj',?_,?_,?_⟩
    ·rw [hva,hL,List.map_append];rfl
    ·rw [List.length_append,hm]
    ·rw [hva]
   ·have hj':j = fs.length:=by rw [decide_eq_false_iff_not,List.length_map] at hd;omega
    subst hj'
    (repeat first | refine AOps.nil ?_ | refine WF ?_)
    refine AWP.iceIn (X:=F) (Y:=Y) .here (.next .here) rfl (.cons (.agg (.cons .same (.cons (.base (.sl (by omega))) .nil))) .nil) ?_
    have hF:AV.frzs ((L.drop 0).take m) = (vAt fs q1 fs.length).1.map iA:=by
     rw [List.drop_zero,List.take_of_length_le (by omega),hL]
     exact Frzs.h
    rw [hF]
    (repeat (first | (refine AOps.gN ?_;first | (refine AOps.g_lit ?_;refine AOps.goL (compA false ⟨i,(vAt fs q1 fs.length).1⟩) ?_)) | refine WK ?_ | refine All.i fun X=>?_ | refine AllY.i fun Y=>?_))
    refine lp_next5 (i + 1) Y _ _ _ ⟨h,?_,?_,?_⟩
    ·rw [hck,hM,List.map_append];rfl
    ·rw [List.length_append,hn]
    ·rw [hck,hr]
 ·have h:i = ks.length:=by rw [decide_eq_false_iff_not,List.length_map] at hc;omega
  subst h
  (repeat (first | refine WK ?_ | refine All.i fun X=>?_ | refine AllY.i fun Y=>?_))
  (refine AWP.ret ?_;(repeat (first | refine inB_r ?_ | refine andThen_r ?_));refine retQ_r ?_)
  subst hM hq
  exact ⟨[.sl K 0 n],[.lst true 58 2 ((cAt ks l ks.length).1.map (compA false))],_,[(G,streamO (cAt ks l ks.length).2)],.cons (.tmp rfl) rfl .nil,.cons (.cell (.sl (p:=0) .here hn)) .nil,by exact Sub.f,rfl,rfl⟩
theorem wAt_len1 (ks:List Kind) (l:List Int) (i:Nat):(wAt ks l i).1.length = i:=by
 induction i with
 | zero=>rfl
 | succ i ih=>rw [wAt];split <;> simp [ih]
theorem wAt_len2 (ks:List Kind) (l:List Int) (i:Nat):(wAt ks l i).2.1.length ≤ i:=by
 induction i with
 | zero=>simp [wAt]
 | succ i ih=>rw [wAt];split <;> (try simp only [List.length_append,List.length_singleton]) <;> omega
def wdO (w:Wd):AV:=.agg [kindsA false false w.kinds,intsA true w.gens,itemsA true false w.items]
instance {w:Wd}:Frz (wdO w) (wdA false w):=⟨by unfold wdO wdA;exact Frz.h⟩
theorem genField_rng (i:Nat) (l:List Int):FieldOK (genField i l).1:=by
 have h9:=nextV_range l (n:=9) (by decide)
 have h40:=nextV_range (nextL l 9) (n:=40) (by decide)
 unfold genField
 split <;> refine ⟨?_,?_,?_,?_⟩ <;> simp <;> omega
theorem fAt_rng (i:Nat) (l:List Int):∀ f ∈ (fAt i l).1,FieldOK f:=by
 induction i with
 | zero=>intro f hf;cases hf
 | succ i ih =>
  intro f hf
  rcases List.mem_append.1 hf with hf | hf
  ·exact ih f hf
  ·rw [List.mem_singleton.1 hf];exact genField_rng _ _
theorem genKind_rng (k:Nat) (l:List Int):(genKind k l).1.fields.length ≤ 3 ∧ ∀ f ∈ (genKind k l).1.fields,FieldOK f:=by
 have h:=nextV_range l (n:=3) (by decide)
 show (genFields 0 (1 + nextV l 3).toNat (nextL l 3)).1.length ≤ 3 ∧ ∀ f ∈ (genFields 0 (1 + nextV l 3).toNat (nextL l 3)).1,FieldOK f
 rw [genFields_at]
 exact ⟨by rw [fAt_len];omega,fAt_rng _ _⟩
theorem kAt_rng (i:Nat) (l:List Int):∀ k ∈ (kAt i l).1,k.fields.length ≤ 3 ∧ ∀ f ∈ k.fields,FieldOK f:=by
 induction i with
 | zero=>intro f hf;cases hf
 | succ i ih =>
  intro f hf
  rcases List.mem_append.1 hf with hf | hf
  ·exact ih f hf
  ·rw [List.mem_singleton.1 hf];exact genKind_rng _ _
theorem genKinds_cnt (l:List Int):(genKinds l).1.length = (1 + nextV l 4).toNat:=by rw [genKinds_at,kAt_len]
theorem genKinds_rng (l:List Int):KindsOK (genKinds l).1:=by
 have h:=nextV_range l (n:=4) (by decide)
 refine ⟨by rw [genKinds_cnt];omega,?_⟩
 rw [genKinds_at]
 intro k hk
 have:=kAt_rng _ _ k hk
 exact ⟨by omega,this.2⟩
theorem world_ps (l:List Int):PS Try.prog 16 [intsA false l] (wdO (genWorld l)):=by
 refine Spec.of (nt:=52) (res:=[.cell 2 39]) Try.func16 rfl (by kernel_rfl) rfl rfl rfl fun Sf=>?_
 have hko:=genKinds_rng l
 obtain ⟨ks,hks⟩:∃ ks,(genKinds l).1 = ks:=⟨_,rfl⟩
 obtain ⟨l1,hl1⟩:∃ l1,(genKinds l).2 = l1:=⟨_,rfl⟩
 have h12:=nextV_range l1 (n:=12) (by decide)
 obtain ⟨c,hc⟩:∃ c:Nat,nextV l1 12 = c:=⟨(nextV l1 12).toNat,by omega⟩
 obtain ⟨l2,hl2⟩:∃ l2,nextL l1 12 = l2:=⟨_,rfl⟩
 have hg:genWorld l = ⟨ks,(wAt ks l2 c).1,(wAt ks l2 c).2.1⟩:=by unfold genWorld;rw [hks,hl1,hl2,hc];rfl
 have hkp:=fun G=>kinds_po G l
 rw [hks,hl1] at hkp
 rw [hks] at hko
 rw [hg]
 clear hg hks hl1
 (repeat refine WF ?_);refine AWP.region ?_;(repeat (first | refine WO ?_ | refine All.i fun R=>?_ | refine AllY.i fun Y=>?_));refine AOps.nil ?_;(repeat refine WN ?_)
 (repeat refine WF ?_);refine AWP.region ?_;(repeat (first | refine WO ?_ | refine All.i fun G=>?_ | refine AllY.i fun Y=>?_));refine AOps.nil ?_;(repeat refine WN ?_)
 (repeat refine WF ?_);refine AWP.region ?_;(repeat (first | (refine AOps.gN ?_;first | (refine AOps.g_callf ?_;first | refine AOps.o1 (h:=(hkp G)) (k:=?_))) | refine WO ?_ | refine All.i fun V=>?_ | refine AllY.i fun Y=>?_));refine AOps.nil ?_;(repeat refine WN ?_)
 (repeat refine WF ?_);refine AWP.region ?_;(repeat (first | (refine AOps.gN ?_;first | (refine AOps.g_callf ?_;first | refine AOps.o2 (h:=(next_po G _ _ (by decide))) (k:=?_))) | refine WO ?_ | refine All.i fun X=>?_ | refine AllY.i fun Y=>?_));refine AOps.nil ?_;(repeat refine WN ?_)
 rw [hl2,hc]
 refine AWP.adoptIn (Y:=V) 56 3 (by exact At.f) (fun F=>.cons (.agg (.cons .same (.cons .same (.cons (.base .nil) .nil)))) .nil) fun B=>?_
 refine AWP.adoptIn (Y:=V) 3 1 (by exact At.f) (fun F=>.cons (.agg (.cons .same (.cons (.base .nil) (.cons .same .nil)))) .nil) fun A=>?_
 (repeat first | refine AOps.nil ?_ | refine WF ?_)
 refine AWP.lp7 (fun (i A B:Nat) (L M:List AV) (n:Nat) (q:List Int)=>⟨[(2,.ptr R 0 0),(3,.ptr G 0 0),(4,.ptr V 0 0),(13,iA c),(14,iA i)],(A,.row 3 1 L) :: (B,.row 56 3 M) :: (V,.row 39 3 [.agg [kindsA false false ks,.sl A 0 i,.sl B 0 n]]) :: (G,streamO q) :: (R,.row 39 3 [.agg [.prim (.slice none 0 0),.prim (.slice none 0 0),.prim (.slice none 0 0)]]) :: Sf⟩) (fun i _ _ L M n q=>i ≤ c ∧ L = (wAt ks l2 i).1.map iA ∧ M = (wAt ks l2 i).2.1.map (itemA false) ∧ n = M.length ∧ q = (wAt ks l2 i).2.2) (fun i _ _ _ _ _ _=>c - i) 0 A B [] [] 0 l2 ⟨Nat.zero_le _,rfl,rfl,rfl,rfl⟩ ?_
 rintro i A B L M n q ⟨hi,hL,hM,hn,hq⟩
 have hA:=wAt_len1 ks l2 i
 have hB:=wAt_len2 ks l2 i
 (repeat (first | refine WK ?_ | refine All.i fun X=>?_ | refine AllY.i fun Y=>?_))
 refine AWP.cond rfl (fun hd=>?_) (fun hd=>?_)
 ·have h:i < c:=by rw [decide_eq_true_eq] at hd;omega
  have h3:=nextV_range q (n:=3) (by decide)
  have h4:=nextV_range (nextL q 3) (n:=4) (by decide)
  (repeat refine WF ?_);refine AWP.region ?_;(repeat (first | refine WO ?_ | refine All.i fun X=>?_ | refine AllY.i fun Y=>?_));refine AOps.nil ?_;(repeat refine WN ?_)
  refine AWP.rs fun X7=>?_
  (repeat refine WF ?_);refine AWP.region_run (by kernel_rfl) (by kernel_rfl) ?_;(repeat (first | (refine RGo.gN ?_;first | (refine RGo.g_callf ?_;first | refine RGo.o2 (h:=(next_po G _ _ (by decide))) (k:=?_))) | (refine RGo.gQ ?_;first | (refine RGo.g_callf ?_;first | refine RGo.o2 (h:=(next_po G _ _ (by decide))) (k:=?_))) | refine RK ?_ | refine RGo.nil (by kernel_rfl) ?_))
  (repeat (first | (refine AOps.gN ?_;first | (refine AOps.g_callf ?_;first | refine AOps.o2 (h:=(next_po G _ _ (by decide))) (k:=?_))) | refine WK ?_ | refine All.i fun X=>?_ | refine AllY.i fun Y=>?_))
  have hLl:L.length = i:=by rw [hL,List.length_map,hA]
  obtain ⟨IT,hIT⟩:∃ IT,(wAt ks l2 i).2.1 = IT:=⟨_,rfl⟩
  rw [hIT] at hM hB
  have hnl:n = IT.length:=by rw [hn,hM,List.length_map]
  have hat:(L ++ [.prim (.int .i64 (nextV q 3))])[i]? = some (.prim (.int .i64 (nextV q 3))):=by rw [← hLl];simp
  refine AWP.cond rfl (fun he=>?_) (fun he=>?_)
  ·have he:nextV (nextL q 3) 4 = 3 ∨ n = 8:=by rw [Bool.or_eq_true,decide_eq_true_eq,decide_eq_true_eq] at he;omega
   have hw:wAt ks l2 (i + 1) = ((wAt ks l2 i).1 ++ [nextV q 3],IT,nextL (nextL q 3) 4):=by rw [wAt,← hq,hIT,← hnl,if_pos he]
   (repeat (first | refine WK ?_ | refine All.i fun X=>?_ | refine AllY.i fun Y=>?_))
   refine lp_next7 (i + 1) X7 B _ M n _ ⟨h,?_,?_,hn,?_⟩
   ·rw [hw,hL,List.map_append];rfl
   ·rw [hw,hM]
   ·rw [hw]
  ·have he:¬ (nextV (nextL q 3) 4 = 3 ∨ n = 8):=by rw [Bool.or_eq_false_iff,decide_eq_false_iff_not,decide_eq_false_iff_not] at he;omega
   have hw:wAt ks l2 (i + 1) = ((wAt ks l2 i).1 ++ [nextV q 3],IT ++ [⟨⟨i,nextV q 3⟩,(genComps ks (nextL (nextL q 3) 4)).1⟩],(genComps ks (nextL (nextL q 3) 4)).2):=by rw [wAt,← hq,hIT,← hnl,if_neg he]
   have hin:i < i + [AV.prim (.int .i64 (nextV q 3))].length:=Nat.lt_succ_self i
   refine AWP.rs fun X8=>?_
   (repeat refine WF ?_);refine AWP.region_run (by kernel_rfl) (by kernel_rfl) ?_;(repeat (first | (refine RGo.gN ?_;first | (refine RGo.g_callf ?_;first | refine RGo.o2 (h:=(comps_po G ks _ hko)) (k:=?_)) | (refine RGo.g_lit ?_;refine RGo.goL (itemA false ⟨⟨i,nextV q 3⟩,(genComps ks (nextL (nextL q 3) 4)).1⟩) ?_)) | (refine RGo.gQ ?_;first | (refine RGo.g_callf ?_;first | refine RGo.o2 (h:=(comps_po G ks _ hko)) (k:=?_)) | (refine RGo.g_lit ?_;refine RGo.goL (itemA false ⟨⟨i,nextV q 3⟩,(genComps ks (nextL (nextL q 3) 4)).1⟩) ?_)) | refine RK ?_ | refine RGo.nil (by kernel_rfl) ?_))
   (repeat (first | refine WK ?_ | refine All.i fun X=>?_ | refine AllY.i fun Y=>?_))
   refine lp_next7 (i + 1) X7 X8 _ _ _ _ ⟨h,?_,?_,?_,?_⟩
   ·rw [hw,hL,List.map_append];rfl
   ·rw [hw,hM,List.map_append];rfl
   ·rw [List.length_append,hn]
   ·rw [hw]
 ·have h:i = c:=by rw [decide_eq_false_iff_not] at hd;omega
  subst h
  (repeat (first | refine WK ?_ | refine All.i fun X=>?_ | refine AllY.i fun Y=>?_))
  (refine AWP.ret ?_;(repeat (first | refine inB_r ?_ | refine andThen_r ?_));refine retQ_r ?_)
  subst hL hM
  have hA:i = ((wAt ks l2 i).1.map iA).length:=by rw [List.length_map,hA]
  exact ⟨[.agg [kindsA false false ks,.sl A 0 i,.sl B 0 n]],[wdO ⟨ks,(wAt ks l2 i).1,(wAt ks l2 i).2.1⟩],_,[],.cons (.cell (p:=4) rfl (by exact At.f) TAg.h TSize.h rfl rfl) rfl .nil,.cons (.agg (.cons .same (.cons (.sl (p:=0) .here hA) (.cons (.sl (p:=0) .here hn) .nil)))) .nil,by exact Sub.f,rfl,rfl⟩
theorem cAt_mem {ks:List Kind} {l:List Int} {i:Nat} {c:Comp} (h:c ∈ (cAt ks l i).1):∃ (j:Nat) (hj:j < ks.length) (q:List Int),j < i ∧ c = ⟨j,(vAt ks[j].fields q ks[j].fields.length).1⟩:=by
 induction i with
 | zero=>cases h
 | succ i ih =>
  by_cases hi:i < ks.length
  ·by_cases h2:nextV (cAt ks l i).2 3 = 2
   ·rw [cAt_no hi h2] at h
    obtain ⟨j,hj,q,h3,h4⟩:=ih h
    exact ⟨j,hj,q,by omega,h4⟩
   ·rw [cAt_yes hi h2] at h
    rcases List.mem_append.1 h with h | h
    ·obtain ⟨j,hj,q,h3,h4⟩:=ih h
     exact ⟨j,hj,q,by omega,h4⟩
    ·rw [List.mem_singleton.1 h]
     exact ⟨i,hi,_,by omega,rfl⟩
  ·rw [cAt,List.getElem?_eq_none (by omega)] at h
   obtain ⟨j,hj,q,h3,h4⟩:=ih h
   exact ⟨j,hj,q,by omega,h4⟩
theorem wAt_mem {ks:List Kind} {l:List Int} {i:Nat} {it:Item} (h:it ∈ (wAt ks l i).2.1):∃ (j:Nat) (q:List Int),j < i ∧ (wAt ks l i).1[j]? = some it.ent.gen ∧ it.ent.n = j ∧ it.comps = (genComps ks q).1:=by
 induction i with
 | zero=>cases h
 | succ i ih =>
  have hl:=wAt_len1 ks l i
  have hup:∀ (x:Int) (g:Int) (j:Nat),(wAt ks l i).1[j]? = some g → ((wAt ks l i).1 ++ [x])[j]? = some g:=fun x g j hg=>by
   rw [List.getElem?_append_left (List.getElem?_eq_some_iff.1 hg).1,hg]
  rw [wAt] at h ⊢
  split
  ·rename_i hs
   rw [if_pos hs] at h
   obtain ⟨j,q,h1,h2,h3,h4⟩:=ih h
   exact ⟨j,q,by omega,hup _ _ _ h2,h3,h4⟩
  ·rename_i hs
   rw [if_neg hs] at h
   rcases List.mem_append.1 h with h | h
   ·obtain ⟨j,q,h1,h2,h3,h4⟩:=ih h
    exact ⟨j,q,by omega,hup _ _ _ h2,h3,h4⟩
   ·rw [List.mem_singleton.1 h]
    exact ⟨i,_,by omega,by rw [List.getElem?_append_right (by omega),hl];simp,rfl,rfl⟩
theorem heldFrom_iff {ks:List Kind}:∀ {l:List Comp} {last:Int},-1 ≤ last → (heldFrom ks last l = true ↔ l.Pairwise (fun a b=>a.kind < b.kind) ∧ ∀ c ∈ l,last < c.kind ∧ c.kind < ks.length ∧ ∃ k,ks[c.kind.toNat]? = some k ∧ holdsOf k c.vals = true)
 | [],_,_=>by simp [heldFrom]
 | c :: l,last,hl=>by
  rw [heldFrom]
  constructor
  ·intro h
   split at h
   ·rename_i k hk
    simp only [Bool.and_eq_true,decide_eq_true_eq] at h
    obtain ⟨⟨⟨h1,h2⟩,h3⟩,h4⟩:=h
    obtain ⟨h5,h6⟩:=(heldFrom_iff (by omega)).1 h4
    refine ⟨List.pairwise_cons.2 ⟨fun d hd=>(h6 d hd).1,h5⟩,fun d hd=>?_⟩
    rcases List.mem_cons.1 hd with rfl | hd
    ·exact ⟨h1,h2,k,hk,h3⟩
    ·obtain ⟨q1,q2⟩:=h6 d hd
     exact ⟨by omega,q2⟩
   ·cases h
  ·rintro ⟨h1,h2⟩
   obtain ⟨h3,h4⟩:=List.pairwise_cons.1 h1
   obtain ⟨h5,h6,k,hk,h7⟩:=h2 c (by simp)
   rw [hk]
   simp only [Bool.and_eq_true,decide_eq_true_eq]
   exact ⟨⟨⟨h5,h6⟩,h7⟩,(heldFrom_iff (by omega)).2 ⟨h4,fun d hd=>⟨h3 d hd,(h2 d (by simp [hd])).2⟩⟩⟩
theorem itemsFrom_iff {ks:List Kind} {gens:List Int}:∀ {l:List Item} {last:Int},-1 ≤ last → (itemsFrom ks gens last l = true ↔ l.Pairwise (fun a b=>a.ent.n < b.ent.n) ∧ ∀ it ∈ l,last < it.ent.n ∧ it.ent.n < gens.length ∧ gens[it.ent.n.toNat]? = some it.ent.gen ∧ it.ent.gen ≠ 1073741824 ∧ heldOf ks it.comps = true)
 | [],_,_=>by simp [itemsFrom]
 | c :: l,last,hl=>by
  rw [itemsFrom]
  constructor
  ·intro h
   split at h
   ·rename_i k hk
    simp only [Bool.and_eq_true,decide_eq_true_eq,Bool.not_eq_true',decide_eq_false_iff_not] at h
    obtain ⟨⟨⟨⟨⟨h1,h2⟩,h3⟩,h4⟩,h7⟩,h8⟩:=h
    obtain ⟨h5,h6⟩:=(itemsFrom_iff (by omega)).1 h8
    refine ⟨List.pairwise_cons.2 ⟨fun d hd=>(h6 d hd).1,h5⟩,fun d hd=>?_⟩
    rcases List.mem_cons.1 hd with rfl | hd
    ·exact ⟨h1,h2,by rw [hk,h3],h4,h7⟩
    ·obtain ⟨q1,q2⟩:=h6 d hd
     exact ⟨by omega,q2⟩
   ·cases h
  ·rintro ⟨h1,h2⟩
   obtain ⟨h3,h4⟩:=List.pairwise_cons.1 h1
   obtain ⟨h5,h6,hk,h7,h8⟩:=h2 c (by simp)
   rw [hk]
   simp only [Bool.and_eq_true,decide_eq_true_eq,Bool.not_eq_true',decide_eq_false_iff_not]
   exact ⟨⟨⟨⟨⟨h5,h6⟩,trivial⟩,h7⟩,h8⟩,(itemsFrom_iff (by omega)).2 ⟨h4,fun d hd=>⟨h3 d hd,(h2 d (by simp [hd])).2⟩⟩⟩
structure WdOK (w:Wd):Prop where
 ks:checkErr w.kinds = 0
 gl:w.gens.length ≤ 256
 il:w.items.length ≤ w.gens.length
 gs:∀ g ∈ w.gens,0 ≤ g ∧ g ≤ 1073741824
 so:w.items.Pairwise fun a b=>a.ent.n < b.ent.n
 it:∀ it ∈ w.items,0 ≤ it.ent.n ∧ it.ent.n < w.gens.length ∧ w.gens[it.ent.n.toNat]? = some it.ent.gen ∧ it.ent.gen ≠ 1073741824 ∧ heldOf w.kinds it.comps = true
theorem wdErr_iff (w:Wd):wdErr w = 0 ↔ WdOK w:=by
 have hg:gensOk w.gens = true ↔ ∀ g ∈ w.gens,0 ≤ g ∧ g ≤ 1073741824:=by
  unfold gensOk
  rw [List.all_eq_true]
  simp only [Bool.and_eq_true,decide_eq_true_eq]
 have hi:=itemsFrom_iff (ks:=w.kinds) (gens:=w.gens) (l:=w.items) (last:=-1) (by omega)
 unfold wdErr
 constructor
 ·intro h
  split at h
  ·exact absurd h ‹_›
  rename_i h1
  split at h
  ·cases h
  rename_i h2
  split at h
  ·cases h
  rename_i h3
  split at h
  ·cases h
  rename_i h4
  obtain ⟨h5,h6⟩:=hi.1 (by simpa using h4)
  exact ⟨by simpa using h1,by omega,by omega,hg.1 (by simpa using h3),h5,fun it hit=>by obtain ⟨a,b⟩:=h6 it hit;exact ⟨by omega,b⟩⟩
 ·intro h
  rw [if_neg (by simp [h.ks]),if_neg (by have:=h.gl;have:=h.il;omega),if_neg (by rw [hg.2 h.gs];simp),if_neg (by rw [hi.2 ⟨h.so,fun it hit=>by obtain ⟨a,b⟩:=h.it it hit;exact ⟨by omega,b⟩⟩];simp)]
theorem cAt_pair (ks:List Kind) (l:List Int) (i:Nat):(cAt ks l i).1.Pairwise fun a b=>a.kind < b.kind:=by
 induction i with
 | zero=>exact .nil
 | succ i ih =>
  by_cases hi:i < ks.length
  ·by_cases h2:nextV (cAt ks l i).2 3 = 2
   ·rw [cAt_no hi h2];exact ih
   ·rw [cAt_yes hi h2]
    refine List.pairwise_append.2 ⟨ih,List.pairwise_singleton ..,fun a ha b hb=>?_⟩
    rw [List.mem_singleton.1 hb]
    obtain ⟨j,hj,q,hji,rfl⟩:=cAt_mem ha
    show (j:Int) < i
    omega
  ·rw [cAt,List.getElem?_eq_none (by omega)];exact ih
theorem vAt_fit {fs:List Field} (hf:∀ f ∈ fs,fieldErr f = 0) (hr:∀ f ∈ fs,FieldOK f) (l:List Int):∀ i,i ≤ fs.length → List.zipWith nearOf (fs.take i) (vAt fs l i).1 = (vAt fs l i).1 ∧ (vAt fs l i).1.length = i
 | 0,_=>⟨rfl,rfl⟩
 | i + 1,h=>by
  obtain ⟨h1,h2⟩:=vAt_fit hf hr l i (by omega)
  rw [vAt_next (by omega)]
  have hm:=List.getElem_mem (l:=fs) (n:=i) (by omega)
  obtain ⟨hb0,hb1,_,_⟩:=hr _ hm
  have hp:=pow_small (b:=fs[i].bits.toNat) (by omega)
  have hv:=nextV_range (vAt fs l i).2 (n:=2 ^ fs[i].bits.toNat) (by omega)
  have hh:highOf fs[i] = fs[i].low + (2 ^ fs[i].bits.toNat - 1):=by unfold highOf;rw [if_pos (hf _ hm)]
  refine ⟨?_,by rw [List.length_append,h2];rfl⟩
  rw [List.take_succ_eq_append_getElem (by omega),List.zipWith_append (by rw [h2,List.length_take];omega),h1]
  simp only [List.zipWith_cons_cons,List.zipWith_nil_left]
  rw [near_in (hf _ hm) (by omega) (by rw [hh];omega)]
theorem vAt_holds {k:Kind} (h1:oneErr k = 0) (hf:∀ f ∈ k.fields,fieldErr f = 0) (hr:∀ f ∈ k.fields,FieldOK f) (l:List Int):holdsOf k (vAt k.fields l k.fields.length).1 = true:=by
 obtain ⟨h2,h3⟩:=vAt_fit hf hr l k.fields.length (Nat.le_refl _)
 rw [List.take_length] at h2
 unfold holdsOf
 rw [fitOf_ok h1 h3,h2]
 simp
structure KsGood (ks:List Kind):Prop where
 one:∀ k ∈ ks,oneErr k = 0
 fld:∀ k ∈ ks,∀ f ∈ k.fields,fieldErr f = 0
 rng:∀ k ∈ ks,∀ f ∈ k.fields,FieldOK f
theorem genKinds_good (l:List Int):KsGood (genKinds l).1 :=
 ⟨genKinds_ok l,fun k hk=>(genKinds_fields l k hk).1,fun k hk=>((genKinds_rng l).2 k hk).2⟩
theorem genComps_held {ks:List Kind} (h:KsGood ks) (l:List Int):heldOf ks (genComps ks l).1 = true:=by
 unfold heldOf
 rw [heldFrom_iff (by omega)]
 refine ⟨cAt_pair _ _ _,fun c hc=>?_⟩
 obtain ⟨j,hj,q,_,rfl⟩:=cAt_mem hc
 have hm:=List.getElem_mem hj
 exact ⟨by show (-1:Int) < (j:Int);omega,by show (j:Int) < _;omega,ks[j],List.getElem?_eq_getElem hj,vAt_holds (h.one _ hm) (h.fld _ hm) (h.rng _ hm) q⟩
theorem wAt_pair (ks:List Kind) (l:List Int) (i:Nat):(wAt ks l i).2.1.Pairwise fun a b=>a.ent.n < b.ent.n:=by
 induction i with
 | zero=>exact .nil
 | succ i ih =>
  rw [wAt]
  split
  ·exact ih
  ·refine List.pairwise_append.2 ⟨ih,List.pairwise_singleton ..,fun a ha b hb=>?_⟩
   rw [List.mem_singleton.1 hb]
   obtain ⟨j,q,hji,_,e,_⟩:=wAt_mem ha
   show a.ent.n < (i:Int)
   omega
theorem wAt_gens (ks:List Kind) (l:List Int) (i:Nat):∀ g ∈ (wAt ks l i).1,0 ≤ g ∧ g < 3:=by
 induction i with
 | zero=>intro g hg;cases hg
 | succ i ih =>
  intro g hg
  rw [wAt] at hg
  have h3:=nextV_range (wAt ks l i).2.2 (n:=3) (by decide)
  split at hg <;>
  ·rcases List.mem_append.1 hg with hg | hg
   ·exact ih g hg
   ·rw [List.mem_singleton.1 hg];exact h3
theorem genWorld_ok (l:List Int):WdOK (genWorld l):=by
 have h:=nextV_range (genKinds l).2 (n:=12) (by decide)
 have h1:=wAt_len2 (genKinds l).1 (nextL (genKinds l).2 12) (nextV (genKinds l).2 12).toNat
 have h2:=wAt_len1 (genKinds l).1 (nextL (genKinds l).2 12) (nextV (genKinds l).2 12).toNat
 have h3:=wAt_gens (genKinds l).1 (nextL (genKinds l).2 12) (nextV (genKinds l).2 12).toNat
 refine ⟨genKinds_check l,?_,?_,fun g hg=>?_,wAt_pair _ _ _,fun it hit=>?_⟩
 ·exact Nat.le_trans (Nat.le_of_eq h2) (by omega)
 ·exact Nat.le_trans h1 (Nat.le_of_eq h2.symm)
 ·have:=h3 g hg;omega
 ·obtain ⟨j,q,hji,hg,hn,hc⟩:=wAt_mem hit
  have hjl:j < (wAt (genKinds l).1 (nextL (genKinds l).2 12) (nextV (genKinds l).2 12).toNat).1.length:=(List.getElem?_eq_some_iff.1 hg).1
  have hgm:=h3 _ (List.mem_of_getElem? hg)
  refine ⟨by omega,?_,?_,by omega,by rw [hc];exact genComps_held (genKinds_good l) q⟩
  ·rw [hn];show (j:Int) < ((wAt _ _ _).1.length:Int);omega
  ·rw [hn];exact hg
section
section
variable {α:Type} {key:α → Int} {l a b:List α}
def KS (key:α → Int) (l:List α):Prop:=l.Pairwise fun a b=>key a < key b
theorem ks_uniq (h:KS key l) {x y:α} (hx:x ∈ l) (hy:y ∈ l) (e:key x = key y):x = y:=by
 induction l with
 | nil=>cases hx
 | cons z l ih =>
  obtain ⟨h1,h2⟩:=List.pairwise_cons.1 h
  rcases List.mem_cons.1 hx with q | q <;> rcases List.mem_cons.1 hy with r | r
  ·rw [q,r]
  ·subst q;have:=h1 y r;omega
  ·subst r;have:=h1 x q;omega
  ·exact ih h2 q r
end
theorem held_iff {ks:List Kind} {l:List Comp}:heldOf ks l = true ↔ SortC l ∧ ∀ c ∈ l,0 ≤ c.kind ∧ c.kind < ks.length ∧ ∃ k,ks[c.kind.toNat]? = some k ∧ holdsOf k c.vals = true:=by
 unfold heldOf
 rw [heldFrom_iff (by omega)]
 constructor
 ·rintro ⟨h1,h2⟩
  exact ⟨h1,fun c hc=>⟨by have:=(h2 c hc).1;omega,(h2 c hc).2⟩⟩
 ·rintro ⟨h1,h2⟩
  exact ⟨h1,fun c hc=>⟨by have:=(h2 c hc).1;omega,(h2 c hc).2⟩⟩
theorem kindsErr_one {pre ks:List Kind} (h:kindsErr pre ks = 0):∀ k ∈ ks,oneErr k = 0:=by
 induction ks generalizing pre with
 | nil=>intro k hk;cases hk
 | cons x l ih =>
  intro k hk
  simp only [kindsErr] at h
  split at h
  ·exact absurd h ‹_›
  ·rename_i hx
   split at h
   ·cases h
   ·rcases List.mem_cons.1 hk with rfl | hk
    ·simpa using hx
    ·exact ih h k hk
theorem checkErr_one {ks:List Kind} (h:checkErr ks = 0):ks.length ≤ 16 ∧ ∀ k ∈ ks,oneErr k = 0:=by
 unfold checkErr at h
 split at h
 ·cases h
 ·exact ⟨by omega,kindsErr_one h⟩
theorem holds_fit {k:Kind} {v:List Int} (h:holdsOf k v = true):fitOf k v = (v,0):=by
 unfold holdsOf at h
 simp only [Bool.and_eq_true,decide_eq_true_eq] at h
 exact Prod.ext h.2 h.1
theorem fitOf_holds {k:Kind} {v:List Int} (h:(fitOf k v).2 = 0):holdsOf k (fitOf k v).1 = true ∧ (fitOf k v).1 = List.zipWith nearOf k.fields v ∧ v.length = k.fields.length:=by
 unfold fitOf at h ⊢
 split at h
 ·exact absurd h ‹_›
 ·rename_i h1
  have h1:oneErr k = 0:=by simpa using h1
  split at h
  ·cases h
  ·rename_i h2
   have h2:v.length = k.fields.length:=by simpa using h2
   rw [if_neg (by simp [h1]),if_neg (by simp [h2])]
   refine ⟨?_,rfl,h2⟩
   unfold holdsOf
   rw [fitOf_ok h1 (by simp [h2]),near_fits (oneErr_zero h1).2.2]
   simp
theorem held_small {ks:List Kind} (hk:checkErr ks = 0) {l:List Comp} (h:heldOf ks l = true):l.length ≤ 16 ∧ ∀ c ∈ l,c.vals.length ≤ 8:=by
 obtain ⟨hs,hm⟩:=held_iff.1 h
 obtain ⟨h16,ho⟩:=checkErr_one hk
 refine ⟨Nat.le_trans (nodup_le Comp.kind _ _ (hs.imp fun h=>by omega) fun c hc=>⟨(hm c hc).1,(hm c hc).2.1⟩) h16,fun c hc=>?_⟩
 obtain ⟨_,_,k,hk2,hh⟩:=hm c hc
 have h8:=(oneErr_zero (ho k (List.mem_of_getElem? hk2))).2.1
 have:=fitOf_holds (k:=k) (v:=c.vals) (by rw [holds_fit hh])
 omega
theorem WdOK.wl {w:Wd} (h:WdOK w):WdL w:=by
 obtain ⟨h16,ho⟩:=checkErr_one h.ks
 refine ⟨⟨by omega,fun k hk=>by have:=(oneErr_zero (ho k hk)).2.1;omega⟩,by have:=h.gl;omega,by have:=h.gl;have:=h.il;omega,fun it hit=>?_⟩
 obtain ⟨h1,h2⟩:=held_small h.ks (h.it it hit).2.2.2.2
 exact ⟨by omega,fun c hc=>by have:=h2 c hc;omega⟩
end
theorem W.makeMap {P:Program} {ty t k e:TypeId} {pos:String} {after:Array Edge} {dst:Option Tmp} {c:Option (List Bool)} {g:Option (Nat × Bool)} {T:List (Nat × AV)} {S:List Slot} {X p:Nat} {z0:Value} [TMap P t k e z0] (hS:At S p (X,.gone)):Stp c P ⟨dst,.makeMap t none,ty,pos,after,g⟩ T S [] [(p,(X,.gone))] (.mp X) [(p,(X,.ob (MapF P k e (fun _=>none) 0)))]:=⟨.makeMap (TMap.h (z0:=z0)),.nil,.cons hS .nil⟩
theorem ArOK.keys_items {a:Ar} (h:ArOK a):tKeys a.ts = (arItems a.ts).map (·.ent.n):=by
 rw [tKeys,arItems,List.map_flatMap]
 have:∀ ts:List Tab,(∀ t ∈ ts,∀ e ∈ t.es,e.1 = e.2.n) → (ts.flatMap fun t=>keysC t.es) = ts.flatMap fun t=>(tItems t).map (·.ent.n):=by
  intro ts
  induction ts with
  | nil=>intro _;rfl
  | cons t ts ih =>
   intro hh
   rw [List.flatMap_cons,List.flatMap_cons,ih fun u hu=>hh u (by simp [hu])]
   congr 1
   rw [tItems,List.map_map]
   exact List.map_congr_left fun e he=>hh t (by simp) e he
 exact this a.ts h.ent
theorem WdOK.cl {w:Wd} (h:WdOK w):∀ it ∈ w.items,it.comps.length ≤ 16:=fun it hi=>by
 obtain ⟨_,_,_,_,e⟩:=h.it it hi
 obtain ⟨h1,h2⟩:=held_iff.1 e
 have h16:=(checkErr_one h.ks).1
 have:=nodup_le (fun c:Comp=>c.kind) w.kinds.length it.comps (h1.imp fun {a b} hab e=>by omega) (fun c hc=>⟨(h2 c hc).1,(h2 c hc).2.1⟩)
 omega
set_option maxRecDepth 8000 in
set_option maxHeartbeats 4000000 in
theorem of_sp (w:Wd) (hw:WdOK w):Spec Try.prog 18 [wdA false w] [] fun r S'=>∃ b:Ar,(ArOK b ∧ ArNE b.ts ∧ b.kinds = w.kinds ∧ b.gens = w.gens ∧ (arItems b.ts).Perm w.items) ∧ r = .tup [.ptr b.A 0 0,iA 0] ∧ S' = arS b:=by
 have hL:=hw.wl
 have hgl:=hw.gl
 have hil:=hw.il
 have hsok:=hw.so
 have hit:=hw.it
 have hkp:=kindCopy_ps w.kinds (by have:=(checkErr_one hw.ks).1;omega) (fun k hk=>by have:=(oneErr_zero ((checkErr_one hw.ks).2 k hk)).2.1;omega)
 have hcl:=cloneI_ps w.gens (by omega)
 have hck:=check_ps' w (by omega) (by omega) (fun it hi=>(hL.items.2 it hi).1)
 rw [(wdErr_iff w).2 hw] at hck
 have hcc:=hw.cl
 have hcp:∀ it ∈ w.items,PS Try.prog 39 [compsA false false it.comps] (compsA true false it.comps):=fun it hi=>copyComps_ps it.comps (hL.items.2 it hi).1 (hL.items.2 it hi).2
 have hime:(w.items.map (itemA false)).length = w.items.length:=List.length_map _
 obtain ⟨ks,gs,its⟩:=w
 dsimp only at *
 refine Spec.of (nt:=38) (res:=[.tmp 2,.tmp 3]) Try.func18 rfl (by kernel_rfl) rfl rfl rfl fun Sf=>?_
 (repeat refine WF ?_);refine AWP.region ?_;(repeat (first | refine WO ?_ | refine All.i fun D=>?_ | refine AllY.i fun Y=>?_));refine AOps.nil ?_;(repeat refine WN ?_)
 (repeat first | refine AOps.nil ?_ | refine WF ?_)
 (repeat refine WF ?_);refine AWP.region ?_;(repeat (first | (refine AOps.gN ?_;first | (refine AOps.g_callf ?_;first | refine AOps.c1 (h:=(hck ..)) (k:=?_))) | refine WO ?_ | refine All.i fun X=>?_ | refine AllY.i fun Y=>?_));refine AOps.nil ?_;(repeat refine WN ?_)
 (repeat first | refine AOps.nil ?_ | refine WF ?_)
 (repeat refine WF ?_);refine AWP.region ?_;(repeat (first | refine WO ?_ | refine All.i fun X=>?_ | refine AllY.i fun Y=>?_));refine AOps.nil ?_;(repeat refine WN ?_)
 (repeat first | refine AOps.nil ?_ | refine WF ?_)
 refine AWP.cond_f rfl rfl ?_
 (repeat first | refine AOps.nil ?_ | refine WF ?_)
 have hgm:(gs.map iA).length = gs.length:=List.length_map _
 refine AWP.rs fun A=>AWP.rs fun G=>AWP.rs fun O=>?_
 (repeat refine WF ?_);refine AWP.region_run (by kernel_rfl) (by kernel_rfl) ?_;(repeat (first | (refine RGo.gN ?_;first | (refine RGo.g_callf ?_;first | refine RGo.c1 (h:=(hkp ..)) (k:=?_) | refine RGo.z1 (h:=hcl) (hT:=.ls (Y:=G)) (k:=?_)) | refine RGo.goS (h:=W.makeMap (X:=O) (by exact At.f)) (k:=?_) | refine RGo.goS (h:=W.box (X:=A) rfl (by exact At.f) rfl) (k:=?_)) | (refine RGo.gQ ?_;first | (refine RGo.g_callf ?_;first | refine RGo.c1 (h:=(hkp ..)) (k:=?_) | refine RGo.z1 (h:=hcl) (hT:=.ls (Y:=G)) (k:=?_)) | refine RGo.goS (h:=W.makeMap (X:=O) (by exact At.f)) (k:=?_) | refine RGo.goS (h:=W.box (X:=A) rfl (by exact At.f) rfl) (k:=?_)) | refine RK ?_ | refine RGo.nil (by kernel_rfl) ?_))
 (repeat first | refine AOps.nil ?_ | refine WF ?_)
 refine AWP.adoptIn (Y:=A) 90 1 (by exact At.f) (fun Tb=>.cons (.agg (.cons .same (.cons .same (.cons (.base .nil) (.cons .same .nil))))) .nil) fun Tb=>?_
 rw [hgm]
 refine AWP.note (fun _ _=>False) (fun _ _ h=>h) fun Tv=>?_
 (repeat refine WF ?_);refine AWP.region ?_;(repeat (first | refine WO ?_ | refine All.i fun X=>?_ | refine AllY.i fun Y=>?_));refine AOps.nil ?_;(repeat refine WN ?_)
 (repeat first | refine AOps.nil ?_ | refine WF ?_)
 refine AWP.front Tb ?_;refine AWP.front Tv ?_;refine AWP.front O ?_;refine AWP.front G ?_;refine AWP.front A ?_;refine AWP.front D ?_
 refine AWP.lp2 (fun (i:Nat) (b:Ar)=>⟨[(5,.ptr A 0 0),(23,itemsA false false its),(24,iA (its.map (itemA false)).length),(25,iA i)],(D,.row 39 3 [wdA false ⟨ks,gs,its⟩]) :: (arS b ++ Sf)⟩) (fun i b=>i ≤ its.length ∧ ArOK b ∧ ArNE b.ts ∧ b.A = A ∧ b.kinds = ks ∧ b.gens = gs ∧ (arItems b.ts).Perm (its.take i)) (fun i _=>its.length - i) 0 ⟨A,G,Tb,O,Tv,fun _ _=>False,fun _=>none,0,ks,gs,[]⟩ ⟨by omega,⟨by simp,.nil,.nil,by simp,by simp,by simp,rfl⟩,(by intro t ht;cases ht),rfl,rfl,rfl,.refl _⟩ ?_
 rintro i b ⟨hi,hok,hne,hA,hbk,hbg,hpm⟩
 subst hA
 (repeat refine WF ?_);refine AWP.region ?_;(repeat (first | refine WO ?_ | refine All.i fun X=>?_ | refine AllY.i fun Y=>?_));refine AOps.nil ?_;(repeat refine WN ?_)
 (repeat first | refine AOps.nil ?_ | refine WF ?_)
 refine AWP.cond rfl (fun h=>?_) (fun h=>?_)
 ·have h:i < its.length:=by rw [decide_eq_true_eq,hime] at h;omega
  have hat:(its.map (itemA false))[i]? = some (itemA false its[i]):=map_at _ h
  have hil:i < (its.map (itemA false)).length:=by omega
  have him:=List.getElem_mem h
  obtain ⟨it1,it2,_⟩:=hit _ him
  have hcpi:=hcp _ him
  have hfr:its[i].ent.n ∉ tKeys b.ts:=by
   rw [hok.keys_items]
   intro hm
   obtain ⟨x,hx,e⟩:=List.mem_map.1 hm
   have hx:=hpm.mem_iff.1 hx
   obtain ⟨j,hj,rfl⟩:=List.mem_take_iff_getElem.1 hx
   have:=List.pairwise_iff_getElem.1 hsok j i (by omega) h (by omega)
   omega
  have had:=add_sp b its[i].ent its[i].comps hok hne ⟨it1,by omega⟩ hfr (hcc _ him)
  have htk:its.take (i + 1) = its.take i ++ [its[i]]:=List.take_succ_eq_append_getElem h
  obtain ⟨⟨ie,ic⟩,hie⟩:∃ it,its[i] = it:=⟨_,rfl⟩
  rw [hie] at hat hcpi had htk
  (repeat first | refine AOps.nil ?_ | refine WF ?_)
  (repeat refine WF ?_);refine AWP.region ?_;(repeat (first | refine WO ?_ | refine All.i fun C=>?_ | refine AllY.i fun Y=>?_));refine AOps.nil ?_;(repeat refine WN ?_)
  (repeat first | refine AOps.nil ?_ | refine WF ?_)
  (repeat refine WF ?_);refine AWP.region_tail 6 (by kernel_rfl) (by kernel_rfl) (by kernel_rfl) ?_;dsimp only [List.take,List.drop];(repeat (first | (refine RGo.gN ?_;first | (refine RGo.g_callf ?_;first | refine RGo.c1 (h:=(hcpi ..)) (k:=?_))) | (refine RGo.gQ ?_;first | (refine RGo.g_callf ?_;first | refine RGo.c1 (h:=(hcpi ..)) (k:=?_))) | refine RK ?_ | refine RGo.nil (by kernel_rfl) ?_))
  refine AOps.p3 [_,_] (h:=had) fun b' hb'=>?_
  obtain ⟨k1,k2,k3,k4,k5,k6⟩:=hb'
  refine AOps.nil ?_
  (repeat first | refine AOps.nil ?_ | refine WF ?_)
  (repeat refine WF ?_);refine AWP.region ?_;(repeat (first | refine WO ?_ | refine All.i fun X=>?_ | refine AllY.i fun Y=>?_));refine AOps.nil ?_;(repeat refine WN ?_)
  exact lp_next2 (i + 1) b' ⟨by omega,k1,k2,k3,k4.trans hbk,k5.trans hbg,by
   rw [htk]
   exact k6.trans ((hpm.cons _).trans (List.perm_append_singleton _ _).symm)⟩ (by omega)
 ·have h:i = its.length:=by rw [decide_eq_false_iff_not,hime] at h;omega
  subst h
  rw [List.take_length] at hpm
  (repeat first | refine AOps.nil ?_ | refine WF ?_)
  (repeat refine WF ?_);refine AWP.region ?_;(repeat (first | refine WO ?_ | refine All.i fun X=>?_ | refine AllY.i fun Y=>?_));refine AOps.nil ?_;(repeat refine WN ?_)
  (refine AWP.ret ?_;(repeat (first | refine inB_r ?_ | refine andThen_r ?_));refine retQ_r ?_)
  exact Ends.sp [.ptr b.A 0 0,iA 0] (arS b) ⟨b,⟨hok,hne,hbk,hbg,hpm⟩,rfl,rfl⟩
section
open Go.Sort
theorem arr_at {α:Type} [Inhabited α] (f:α → AV) {d:Array α} {i:Nat} (h:i < d.size):(d.toList.map f)[i]? = some (f d[i]!):=by
 rw [List.getElem?_map,List.getElem?_eq_getElem (by simpa using h)]
 simp [getElem!_pos d i h]
theorem arr_swp {α:Type} [Inhabited α] (f:α → AV) {d:Array α} {i j:Nat} (hi:i < d.size) (hj:j < d.size):((d.toList.map f).set i (f d[j]!)).set j (f d[i]!) = (swp d i j).toList.map f:=by
 unfold swp
 simp [Array.toList_setIfInBounds,List.map_set]
theorem arr_set2 {α:Type} [Inhabited α] (f:α → AV) {d:Array α} {i j:Nat} (hj:j < d.size) (x:α):∃ y,((d.toList.map f).set i (f x))[j]? = some (f y):=by
 by_cases e:i = j
 ·subst e;exact ⟨x,List.getElem?_set_self (by simpa using hj)⟩
 ·exact ⟨d[j]!,by rw [List.getElem?_set_ne e];exact arr_at f hj⟩
def ltOf {α:Type} (cf:α → α → Int) (x y:α):Bool:=decide (cf x y < 0)
instance:Inhabited Ent:=⟨⟨0,0⟩⟩
theorem order2_le {α:Type} [Inhabited α] (lt:α → α → Bool) (d:Array α) (a b s:Nat):(order2 lt d a b s).2.2 ≤ s + 1:=by
 unfold order2;split <;> simp
theorem order2_lt {α:Type} [Inhabited α] (lt:α → α → Bool) (d:Array α) (a b s m:Nat) (ha:a < m) (hb:b < m):(order2 lt d a b s).1 < m ∧ (order2 lt d a b s).2.1 < m:=by
 unfold order2;split <;> exact ⟨by assumption,by assumption⟩
theorem median_le {α:Type} [Inhabited α] (lt:α → α → Bool) (d:Array α) (a b c s:Nat):(median lt d a b c s).2 ≤ s + 3:=by
 have e1:=order2_le lt d a b s
 have e2:=order2_le lt d (order2 lt d a b s).2.1 c (order2 lt d a b s).2.2
 have e3:=order2_le lt d (order2 lt d a b s).1 (order2 lt d (order2 lt d a b s).2.1 c (order2 lt d a b s).2.2).1 (order2 lt d (order2 lt d a b s).2.1 c (order2 lt d a b s).2.2).2.2
 unfold median
 dsimp only
 omega
theorem medAdj_lt {α:Type} [Inhabited α] (lt:α → α → Bool) (d:Array α) (a s m:Nat) (h:a + 1 < m):(medianAdjacent lt d a s).1 < m:=by
 rcases medianAdjacent_mem lt d a s with e | e | e <;> omega
def hintN:Hint → Int
 | .unknown=>0
 | .increasing=>1
 | .decreasing=>2
end
section
open Go.Sort
end
section
open Go.Sort
end
section
open Go.Sort
end
section
open Go.Sort
end
section
open Go.Sort
def lenTab:List UInt8:=(List.range 256).map fun n=>UInt8.ofNat (if n = 0 then 0 else Nat.log2 n + 1)
theorem lenTab_at {n:Nat} (h:n < 256):((lenTab.getD n 0).toNat:Int) = bitsLen n:=by
 have h1:lenTab.getD n 0 = UInt8.ofNat (bitsLen n):=by
  unfold lenTab
  rw [List.getD_eq_getElem?_getD,List.getElem?_map,List.getElem?_range h]
  rfl
 have h2:bitsLen n ≤ 8:=(bitsLen_le_iff n 8).2 (by omega)
 rw [h1,UInt8.toNat_ofNat']
 omega
theorem bitsLen_div256 {x:Nat} (h:256 ≤ x):bitsLen (x / 256) + 8 = bitsLen x:=by
 have a:=(bitsLen_le_iff (x / 256) (bitsLen x - 8)).2 (by
  have h1:=lt_two_pow_bitsLen x
  have h2:8 < bitsLen x:=by
   have:=(bitsLen_le_iff x 8)
   omega
  have h3:2 ^ bitsLen x = 2 ^ (bitsLen x - 8) * 256:=by rw [show (256:Nat) = 2 ^ 8 from rfl,← Nat.pow_add];congr 1;omega
  omega)
 have b:=(bitsLen_le_iff x (bitsLen (x / 256) + 8)).2 (by
  have h1:=lt_two_pow_bitsLen (x / 256)
  rw [Nat.pow_add]
  omega)
 have h2:8 < bitsLen x:=by
  have:=(bitsLen_le_iff x 8)
  omega
 omega
set_option maxRecDepth 100000 in
theorem len64_ps (x:UInt64) (hx:x.toNat < 65536):PS Try.prog 109 [uA x] (iA (bitsLen x.toNat)):=by
 refine Spec.of (nt:=25) (res:=[.tmp 2]) Try.func109 rfl (by kernel_rfl) rfl rfl rfl fun Sf=>?_
 (repeat (first | refine WK ?_ | refine All.i fun X=>?_ | refine AllY.i fun Y=>?_))
 refine AWP.cond_f rfl (decide_eq_false (by omega)) ?_
 (repeat (first | refine WK ?_ | refine All.i fun X=>?_ | refine AllY.i fun Y=>?_))
 refine AWP.cond_f rfl (decide_eq_false (by omega)) ?_
 (repeat (first | refine WK ?_ | refine All.i fun X=>?_ | refine AllY.i fun Y=>?_))
 refine AWP.joinS (fun b:UInt64 × Nat=>b.1.toNat < 256 ∧ bitsLen b.1.toNat + b.2 = bitsLen x.toNat ∧ b.2 ≤ 8) (fun b=>⟨[(0,uA b.1),(2,iA b.2)],Sf⟩) ?_ ?_
 ·refine AWP.cond rfl (fun h=>?_) (fun h=>?_)
  ·have h:256 ≤ x.toNat:=by have:=of_decide_eq_true h;omega
   have hs:(x >>> UInt64.ofNat 8).toNat = x.toNat / 256:=by
    rw [UInt64.toNat_shiftRight,UInt64.toNat_ofNat',show 8 % 2 ^ 64 % 64 = 8 from rfl,Nat.shiftRight_eq_div_pow]
   (repeat (first | (refine AOps.gN ?_;first | refine AOps.p (W.shrU 8 (by omega) rfl rfl rfl) rfl ?_) | refine WK ?_ | refine All.i fun X=>?_ | refine AllY.i fun Y=>?_))
   refine jn (x >>> UInt64.ofNat 8,8) ⟨by dsimp only;omega,?_,by (try dsimp only);omega⟩
   dsimp only
   rw [hs]
   exact bitsLen_div256 h
  ·have h:¬ 256 ≤ x.toNat:=by have:=of_decide_eq_false h;omega
   (repeat (first | refine WK ?_ | refine All.i fun X=>?_ | refine AllY.i fun Y=>?_))
   exact jn (x,0) ⟨by dsimp only;omega,rfl,by (try dsimp only);omega⟩
 ·rintro ⟨u,m⟩ ⟨h1,h2,h3⟩
  dsimp only at h1 h2 h3 ⊢
  have hw:IntKind.u8.wrap ((u.toNat:Nat):Int) = ((u.toNat:Nat):Int):=by rw [IntKind.wrap_u8'];omega
  have hat:=lenTab_at h1
  have hb8:bitsLen u.toNat ≤ 8:=(bitsLen_le_iff _ 8).2 (by omega)
  have hw2:IntKind.i64.wrap ((lenTab.getD u.toNat 0).toNat:Int) = ((bitsLen u.toNat:Nat):Int):=by rw [hat];exact wrap_id (by omega) (by omega)
  (repeat (first | (refine AOps.gN ?_;first | refine AOps.p (W.convW .u64 .u8 _ (by kernel_rfl) (by kernel_rfl) hw rfl) rfl ?_ | refine AOps.p (W.idxStr (s:=lenTab) (a:=u.toNat) (by kernel_rfl) rfl rfl (by rw [lenTab_len];exact h1)) rfl ?_ | refine AOps.p (W.convW .u8 .i64 _ (by kernel_rfl) (by kernel_rfl) hw2 rfl) rfl ?_ | refine AOps.p (W.addE ((bitsLen x.toNat:Nat):Int) (by omega) (by omega) rfl rfl) rfl ?_) | refine WK ?_ | refine All.i fun X=>?_ | refine AllY.i fun Y=>?_))
  (refine AWP.ret ?_;(repeat (first | refine inB_r ?_ | refine andThen_r ?_));refine retQ_r ?_);refine Ends.ps ?_
  rfl
theorem len_ps (x:UInt64) (hx:x.toNat < 65536):PS Try.prog 79 [uA x] (iA (bitsLen x.toNat)):=by
 have h:=len64_ps x hx
 refine Spec.of (nt:=8) (res:=[.tmp 2]) Try.func79 rfl (by kernel_rfl) rfl rfl rfl fun Sf=>?_
 (repeat (first | refine WK ?_ | refine All.i fun X=>?_ | refine AllY.i fun Y=>?_))
 refine AWP.cond_f rfl rfl ?_
 (repeat (first | (refine AOps.gN ?_;first | (refine AOps.g_callf ?_;first | refine AOps.c1 (h:=(h ..)) (k:=?_))) | refine WK ?_ | refine All.i fun X=>?_ | refine AllY.i fun Y=>?_))
 (refine AWP.ret ?_;(repeat (first | refine inB_r ?_ | refine andThen_r ?_));refine retQ_r ?_);refine Ends.ps ?_
 rfl
theorem nextPow_ps (n:Nat) (hn:n < 65536):PS Try.prog 135 [iA n] (uA ((1:UInt64) <<< UInt64.ofNat (bitsLen n))):=by
 have e:(UInt64.ofNat n).toNat = n:=by rw [UInt64.toNat_ofNat'];omega
 have h:=len_ps (UInt64.ofNat n) (by rw [e];exact hn)
 rw [e] at h
 have hb:bitsLen n ≤ 16:=(bitsLen_le_iff n 16).2 (by omega)
 refine Spec.of (nt:=7) (res:=[.tmp 2]) Try.func135 rfl (by kernel_rfl) rfl rfl rfl fun Sf=>?_
 (repeat (first | (refine AOps.gN ?_;first | (refine AOps.g_callf ?_;first | refine AOps.c1 (h:=(h ..)) (k:=?_)) | refine AOps.p (W.toUN .i64 n rfl (by omega) (by kernel_rfl) (by kernel_rfl) rfl) rfl ?_ | refine AOps.p (W.shlU (a:=1) (bitsLen n) (by omega) rfl rfl rfl) rfl ?_) | refine WK ?_ | refine All.i fun X=>?_ | refine AllY.i fun Y=>?_))
 (refine AWP.ret ?_;(repeat (first | refine inB_r ?_ | refine andThen_r ?_));refine retQ_r ?_);refine Ends.ps ?_
 rfl
theorem xorNext_sp (Y:Nat) (s:UInt64):Spec Try.prog 136 [.ptr Y 0 0] [(Y,.row 192 1 [uA s])] fun r S'=>∃ v:UInt64,True ∧ r = uA v ∧ S' = [(Y,.row 192 1 [uA v])]:=by
 refine Spec.of (nt:=33) (res:=[.tmp 2]) Try.func136 rfl (by kernel_rfl) rfl rfl rfl fun Sf=>?_
 (repeat refine WF ?_);refine AWP.region ?_;(repeat (first | refine WO ?_ | refine All.i fun X=>?_ | refine AllY.i fun Y=>?_));refine AOps.nil ?_;(repeat refine WN ?_)
 (repeat refine WF ?_);refine AWP.region_run (by kernel_rfl) (by kernel_rfl) ?_;(repeat (first | (refine RGo.gN ?_;first | refine RGo.p (W.shlU 13 (by omega) rfl rfl rfl) rfl ?_ | refine RGo.p (W.xorU rfl rfl) rfl ?_) | (refine RGo.gQ ?_;first | refine RGo.p (W.shlU 13 (by omega) rfl rfl rfl) rfl ?_ | refine RGo.p (W.xorU rfl rfl) rfl ?_) | refine RK ?_ | refine RGo.nil (by kernel_rfl) ?_))
 (repeat refine WF ?_)
 (repeat refine WF ?_);refine AWP.region_run (by kernel_rfl) (by kernel_rfl) ?_;(repeat (first | (refine RGo.gN ?_;first | refine RGo.p (W.shrU 7 (by omega) rfl rfl rfl) rfl ?_ | refine RGo.p (W.xorU rfl rfl) rfl ?_) | (refine RGo.gQ ?_;first | refine RGo.p (W.shrU 7 (by omega) rfl rfl rfl) rfl ?_ | refine RGo.p (W.xorU rfl rfl) rfl ?_) | refine RK ?_ | refine RGo.nil (by kernel_rfl) ?_))
 (repeat refine WF ?_)
 (repeat refine WF ?_);refine AWP.region_run (by kernel_rfl) (by kernel_rfl) ?_;(repeat (first | (refine RGo.gN ?_;first | refine RGo.p (W.shlU 17 (by omega) rfl rfl rfl) rfl ?_ | refine RGo.p (W.xorU rfl rfl) rfl ?_) | (refine RGo.gQ ?_;first | refine RGo.p (W.shlU 17 (by omega) rfl rfl rfl) rfl ?_ | refine RGo.p (W.xorU rfl rfl) rfl ?_) | refine RK ?_ | refine RGo.nil (by kernel_rfl) ?_))
 (repeat (first | refine WK ?_ | refine All.i fun X=>?_ | refine AllY.i fun Y=>?_))
 (refine AWP.ret ?_;(repeat (first | refine inB_r ?_ | refine andThen_r ?_));refine retQ_r ?_)
 exact Ends.sp [uA _] [(Y,_)] ⟨_,trivial,rfl,rfl⟩
end
section
open Go.Sort
end
section
open Go.Sort
end
section
open Go.Sort
end
section
open Go.Sort
end
section
open Go.Sort
theorem permIn_list {α:Type} [Inhabited α] {d u:Array α} (h:PermIn 0 d.size d u):u.toList.Perm d.toList:=by
 obtain ⟨h1,_,h3⟩:=h
 have e1:u.extract 0 d.size = u:=by rw [← h1];exact Array.extract_size
 rwa [e1,Array.extract_size] at h3
theorem sortedIn_list {α:Type} [Inhabited α] {lt:α → α → Bool} {u:Array α} {n:Nat} (hn:n = u.size) (h:SortedIn lt 0 n u):u.toList.Pairwise fun a b=>lt b a = false:=by
 rw [List.pairwise_iff_getElem]
 intro i j hi hj hij
 have hi':i < u.size:=by simpa using hi
 have hj':j < u.size:=by simpa using hj
 have:=h i j (Nat.zero_le _) hij (by omega)
 rw [getElem!_pos u j hj',getElem!_pos u i hi'] at this
 simpa using this
theorem cmpI_neg (a b:Int):cmpI a b < 0 ↔ a < b:=by
 unfold cmpI
 split
 ·simp;assumption
 ·split <;> simp <;> omega
theorem swo_key {α:Type} (key:α → Int):SWO (ltOf fun x y=>cmpI (key x) (key y)) where
 irrefl x:=by simp only [ltOf,decide_eq_false_iff_not,cmpI_neg];omega
 trans x y z h1 h2:=by simp only [ltOf,decide_eq_true_eq,cmpI_neg] at *;omega
 ntrans x y z h1 h2:=by simp only [ltOf,decide_eq_false_iff_not,cmpI_neg] at *;omega
end
section
open Go.Sort
end
theorem ar_open {a:Ar} {l1 l2:List Tab} {t:Tab} (h:a.ts = l1 ++ t :: l2) (Sf:List Slot):(arS a ++ Sf).Perm (arH a ++ (tabS t ++ (tabsS l1 ++ (tabsS l2 ++ Sf)))):=by
 rw [arS,List.append_assoc]
 refine List.Perm.append_left _ ?_
 rw [h]
 exact tabs_open Sf
set_option maxRecDepth 8000 in
theorem tables_sp (a:Ar) (ha:ArOK a) (hne:ArNE a.ts):Spec Try.prog 21 [.ptr a.A 0 0] (arS a) fun r S'=>r = .lst false 22 1 (a.ts.map fun t=>intsA false t.ks) ∧ S' = arS a:=by
 have htl:=ha.ts_le hne
 have hpt:(ptrs Tab.X a.ts).length = a.ts.length:=List.length_map _
 refine Spec.of (nt:=25) (res:=[.tmp 2]) Try.func21 rfl (by kernel_rfl) rfl rfl rfl fun Sf=>?_
 (repeat refine WF ?_);refine AWP.region ?_;(repeat (first | refine WO ?_ | refine All.i fun X=>?_ | refine AllY.i fun Y=>?_));refine AOps.nil ?_;(repeat refine WN ?_)
 (repeat first | refine AOps.nil ?_ | refine WF ?_)
 (repeat refine WF ?_);refine AWP.region ?_;(repeat (first | refine WO ?_ | refine All.i fun X=>?_ | refine AllY.i fun Y=>?_));refine AOps.nil ?_;(repeat refine WN ?_)
 (repeat first | refine AOps.nil ?_ | refine WF ?_)
 refine AWP.adopt (d:=3) 22 1 rfl fun K=>?_
 (repeat refine WF ?_);refine AWP.region ?_;(repeat (first | refine WO ?_ | refine All.i fun X=>?_ | refine AllY.i fun Y=>?_));refine AOps.nil ?_;(repeat refine WN ?_)
 (repeat first | refine AOps.nil ?_ | refine WF ?_)
 refine AWP.lp2 (fun (j K:Nat)=>⟨[(3,.sl K 0 j),(9,.sl a.Tb 0 a.ts.length),(10,iA (a.ts.length:Nat)),(11,iA j)],(K,.row 22 1 ((a.ts.take j).map fun t=>intsA false t.ks)) :: (arS a ++ Sf)⟩) (fun j _=>j ≤ a.ts.length) (fun j _=>a.ts.length - j) 0 K (by omega) ?_
 rintro j K hj
 have hrl:j = ((a.ts.take j).map fun t=>intsA false t.ks).length:=by rw [List.length_map,List.length_take];omega
 (repeat refine WF ?_);refine AWP.region ?_;(repeat (first | refine WO ?_ | refine All.i fun X=>?_ | refine AllY.i fun Y=>?_));refine AOps.nil ?_;(repeat refine WN ?_)
 (repeat first | refine AOps.nil ?_ | refine WF ?_)
 refine AWP.cond rfl (fun h=>?_) (fun h=>?_)
 ·have h:j < a.ts.length:=by rw [decide_eq_true_eq] at h;omega
  obtain ⟨l1,l2,hsp,hl1⟩:=splitL_at h
  have hto:=ha.tab _ (List.getElem_mem h)
  have hat:(ptrs Tab.X a.ts)[j]? = some (.ptr a.ts[j].X 0 0):=map_at _ h
  have htk:((a.ts.take j).map fun t=>intsA false t.ks) ++ [intsA false a.ts[j].ks] = (a.ts.take (j + 1)).map fun t=>intsA false t.ks:=by rw [List.take_succ_eq_append_getElem h,List.map_append];rfl
  have hcl:=cloneI_ps a.ts[j].ks (by have:=hto.ks;omega)
  obtain ⟨t,ht⟩:∃ t,a.ts[j] = t:=⟨_,rfl⟩
  rw [ht] at hsp hat htk hcl
  (repeat first | refine AOps.nil ?_ | refine WF ?_)
  (repeat refine WF ?_);refine AWP.region ?_;(repeat (first | (refine AOps.gN ?_;first | refine AOps.go (h:=W.idx rfl rfl (by exact At.f) rfl (by omega) (Nat.zero_add _)) (k:=?_)) | refine WO ?_ | refine All.i fun X=>?_ | refine AllY.i fun Y=>?_));refine AOps.nil ?_;(repeat refine WN ?_)
  (repeat first | refine AOps.nil ?_ | refine WF ?_)
  refine AWP.perm (List.Perm.cons _ (ar_open hsp Sf)) ?_
  (repeat refine WF ?_);refine AWP.region ?_;(repeat (first | (refine AOps.gN ?_;first | (refine AOps.g_callf ?_;first | refine AOps.c1 (h:=(hcl ..)) (k:=?_)) | (refine AOps.g_lit ?_;refine AOps.goL (intsA false t.ks) ?_)) | refine WO ?_ | refine All.i fun X=>?_ | refine AllY.i fun Y=>?_));refine AOps.nil ?_;(repeat refine WN ?_)
  rw [htk]
  (repeat first | refine AOps.nil ?_ | refine WF ?_)
  refine AWP.perm (List.Perm.cons _ (ar_open hsp Sf).symm) ?_
  (repeat refine WF ?_);refine AWP.region ?_;(repeat (first | refine WO ?_ | refine All.i fun X=>?_ | refine AllY.i fun Y=>?_));refine AOps.nil ?_;(repeat refine WN ?_)
  exact lp_next2 (j + 1) Y (by omega)
 ·have h:j = a.ts.length:=by rw [decide_eq_false_iff_not] at h;omega
  subst h
  rw [List.take_length] at hrl ⊢
  have hF:AV.frzs (a.ts.map fun t=>intsA false t.ks) = a.ts.map fun t=>intsA false t.ks:=by
   rw [frzs_map,List.map_map]
   exact List.map_congr_left fun t _=>(inferInstance:Frz (intsA false t.ks) (intsA false t.ks)).h
  (repeat first | refine AOps.nil ?_ | refine WF ?_)
  refine AWP.iceL 3 _ hF ?_
  (repeat refine WF ?_);refine AWP.region ?_;(repeat (first | refine WO ?_ | refine All.i fun X=>?_ | refine AllY.i fun Y=>?_));refine AOps.nil ?_;(repeat refine WN ?_)
  (refine AWP.ret ?_;(repeat (first | refine inB_r ?_ | refine andThen_r ?_));refine retQ_r ?_)
  exact Ends.sp [.lst false 22 1 (a.ts.map fun t=>intsA false t.ks)] (arS a) ⟨rfl,rfl⟩
theorem ArOK.uniq_ks {a:Ar} (h:ArOK a) {i j:Nat} (hi:i < a.ts.length) (hj:j < a.ts.length) (e:a.ts[i].ks = a.ts[j].ks):i = j:=by
 have hz:cmpL a.ts[i].ks a.ts[j].ks = 0:=cmpL_zero.2 e
 have hz2:cmpL a.ts[j].ks a.ts[i].ks = 0:=cmpL_zero.2 e.symm
 rcases Nat.lt_trichotomy i j with h1 | h1 | h1
 ·have:=List.pairwise_iff_getElem.1 h.ord i j hi hj h1;omega
 ·exact h1
 ·have:=List.pairwise_iff_getElem.1 h.ord j i hj hi h1;omega
set_option maxRecDepth 8000 in
set_option maxHeartbeats 4000000 in
theorem ents_sp (a:Ar) (ha:ArOK a) (hne:ArNE a.ts) (x:Nat) (hx:x < a.ts.length):Spec Try.prog 22 [.ptr a.A 0 0,intsA false a.ts[x].ks] (arS a) fun r S'=>r = entsA (a.ts[x].es.map (·.2)) ∧ S' = arS a:=by
 have htl:=ha.ts_le hne
 have hpt:(ptrs Tab.X a.ts).length = a.ts.length:=List.length_map _
 have hun:=fun j (hj:j < a.ts.length) (e:a.ts[j].ks = a.ts[x].ks)=>ha.uniq_ks hj hx e
 refine Spec.of (nt:=38) (res:=[.tmp 4]) Try.func22 rfl (by kernel_rfl) rfl rfl rfl fun Sf=>?_
 (repeat refine WF ?_);refine AWP.region ?_;(repeat (first | refine WO ?_ | refine All.i fun X=>?_ | refine AllY.i fun Y=>?_));refine AOps.nil ?_;(repeat refine WN ?_)
 (repeat first | refine AOps.nil ?_ | refine WF ?_)
 (repeat refine WF ?_);refine AWP.region ?_;(repeat (first | refine WO ?_ | refine All.i fun X=>?_ | refine AllY.i fun Y=>?_));refine AOps.nil ?_;(repeat refine WN ?_)
 (repeat first | refine AOps.nil ?_ | refine WF ?_)
 refine AWP.lp (fun (j:Nat)=>⟨[(1,intsA false a.ts[x].ks),(13,.sl a.Tb 0 a.ts.length),(14,iA (a.ts.length:Nat)),(15,iA j)],arS a ++ Sf⟩) (fun j=>j ≤ x) (fun j=>a.ts.length - j) 0 (by omega) ?_
 rintro j hj
 have h:j < a.ts.length:=by omega
 obtain ⟨l1,l2,hsp,hl1⟩:=splitL_at h
 have hto:=ha.tab _ (List.getElem_mem h)
 have hat:(ptrs Tab.X a.ts)[j]? = some (.ptr a.ts[j].X 0 0):=map_at _ h
 have heq:=equalI_ps a.ts[j].ks a.ts[x].ks (by have:=hto.ks;omega)
 have hdl:decide ((j:Int) < (a.ts.length:Nat)) = true:=decide_eq_true (by omega)
 (repeat refine WF ?_);refine AWP.region ?_;(repeat (first | refine WO ?_ | refine All.i fun X=>?_ | refine AllY.i fun Y=>?_));refine AOps.nil ?_;(repeat refine WN ?_)
 (repeat first | refine AOps.nil ?_ | refine WF ?_)
 refine AWP.cond_t rfl hdl ?_
 (repeat first | refine AOps.nil ?_ | refine WF ?_)
 (repeat refine WF ?_);refine AWP.region ?_;(repeat (first | (refine AOps.gN ?_;first | refine AOps.go (h:=W.idx rfl rfl (by exact At.f) rfl (by omega) (Nat.zero_add _)) (k:=?_)) | refine WO ?_ | refine All.i fun X=>?_ | refine AllY.i fun Y=>?_));refine AOps.nil ?_;(repeat refine WN ?_)
 (repeat first | refine AOps.nil ?_ | refine WF ?_)
 refine AWP.perm (ar_open hsp Sf) ?_
 (repeat refine WF ?_);refine AWP.region ?_;(repeat (first | (refine AOps.gN ?_;first | (refine AOps.g_callf ?_;first | refine AOps.c2 (h:=(heq ..)) (k:=?_))) | refine WO ?_ | refine All.i fun X=>?_ | refine AllY.i fun Y=>?_));refine AOps.nil ?_;(repeat refine WN ?_)
 (repeat first | refine AOps.nil ?_ | refine WF ?_)
 refine AWP.cond rfl (fun hb=>?_) (fun hb=>?_)
 ·have hb:a.ts[j].ks = a.ts[x].ks:=of_decide_eq_true hb
  have hjx:=hun j h hb
  subst hjx
  obtain ⟨t,ht⟩:∃ t,a.ts[j] = t:=⟨_,rfl⟩
  rw [ht] at hsp hto ⊢
  have hal:=allE_sp t.ek t.es hto.es
  have hel:=hto.es.len
  have hI:=allE_itr (keysC t.es) (t.es.map (·.2)) (by simp) (by rw [List.length_map];omega)
  (repeat first | refine AOps.nil ?_ | refine WF ?_)
  (repeat refine WF ?_);refine AWP.region ?_;(repeat (first | refine WO ?_ | refine All.i fun P7=>?_ | refine AllY.i fun Y=>?_));refine AOps.nil ?_;(repeat refine WN ?_)
  (repeat first | refine AOps.nil ?_ | refine WF ?_)
  refine AWP.adoptIn (Y:=P7) 52 2 .here (fun F=>.cons (.base .nil) .nil) fun F=>?_
  (repeat refine WF ?_);refine AWP.region ?_;(repeat (first | (refine AOps.gN ?_;first | refine AOps.u1 [_,_,_,_,_,_,_,_] (h:=hal) (k:=?_)) | refine WO ?_ | refine All.i fun X=>?_ | refine AllY.i fun Y=>?_));refine AOps.nil ?_;(repeat refine WN ?_)
  (repeat first | refine AOps.nil ?_ | refine WF ?_)
  refine AWP.rangeF (Sf:=arH a ++ (tabS t ++ (tabsS l1 ++ (tabsS l2 ++ Sf)))) hI (fun b:Nat × List Ent=>[(b.1,.row 52 2 (b.2.map entA)),(P7,.row 49 1 [.sl b.1 0 b.2.length])]) (fun i b=>b.2 = (t.es.map (·.2)).take i) (F,[]) rfl ?_ ?_ rfl rfl rfl ?_ ?_
  ·rintro i vs ⟨K,is⟩ l F1 F2 hi hb
   dsimp only at hb
   have hn:i < t.es.length:=by
    have:=(List.getElem?_eq_some_iff.1 hi).1
    simpa using this
   have hiv:[iA t.es[i].1,entA t.es[i].2] = vs:=by
    rw [List.getElem?_map,List.getElem?_eq_getElem (by simpa using hn),List.getElem_zip] at hi
    simpa using hi
   subst hiv
   have hnx:is ++ [t.es[i].2] = (t.es.map (·.2)).take (i + 1):=by
    rw [hb,List.take_succ_eq_append_getElem (by rw [List.length_map];exact hn),List.getElem_map]
   have hil:is.length < t.es.length:=by rw [hb,List.length_take,List.length_map];omega
   have hrl:is.length = (is.map entA).length:=by rw [List.length_map]
   obtain ⟨⟨en,ee⟩,hee⟩:∃ e,t.es[i] = e:=⟨_,rfl⟩
   rw [hee] at hnx ⊢
   dsimp only at hnx ⊢
   have hma:is.map entA ++ [entA ee] = (is ++ [ee]).map entA:=by rw [List.map_append];rfl
   have hml:is.length + [entA ee].length = (is ++ [ee]).length:=by rw [List.length_append];rfl
   (repeat first | refine AOps.nil ?_ | refine WF ?_)
   (repeat refine WF ?_);refine AWP.region ?_;(repeat (first | refine WO ?_ | refine All.i fun E9=>?_ | refine AllY.i fun Y=>?_));refine AOps.nil ?_;(repeat refine WN ?_)
   refine ⟨(E9,.row 52 2 [entA ee]) :: [(K,.row 52 2 (is.map entA)),(P7,.row 49 1 [.sl K 0 is.length])],.refl _,?_⟩
   (repeat first | refine AOps.nil ?_ | refine WF ?_)
   (repeat refine WF ?_);refine AWP.region ?_;(repeat (first | refine WO ?_ | refine All.i fun X=>?_ | refine AllY.i fun Y=>?_));refine AOps.nil ?_;(repeat refine WN ?_)
   rw [hma,hml]
   refine ⟨[(Y,.row 52 2 ((is ++ [ee]).map entA)),(P7,.row 49 1 [.sl Y 0 (is ++ [ee]).length])],?_,(Y,is ++ [ee]),hnx,rfl⟩
   first | exact .refl _ | exact .cons _ (.refl _) | exact .cons _ (.cons _ (.refl _)) | exact .cons₂ _ (.cons _ (.refl _)) | exact .cons₂ _ (.cons _ (.cons _ (.refl _))) | exact .cons _ (.cons₂ _ (.cons _ (.refl _)))
  ·rintro ⟨K,is⟩ hb
   dsimp only at hb
   have hxl:((keysC t.es).zip (t.es.map (·.2))).length = t.es.length:=by simp
   rw [List.length_map,hxl,← List.length_map (f:=(·.2)),List.take_length] at hb
   have hF:AV.frzs (((is.map entA).drop 0).take is.length) = is.map entA:=by
    rw [List.drop_zero,List.take_of_length_le (by rw [List.length_map];omega)]
    exact Frzs.h
   (repeat first | refine AOps.nil ?_ | refine WF ?_)
   refine AWP.iceIn (X:=K) (Y:=P7) .here (.next .here) rfl (.cons (.base (.sl (by rw [List.length_map];omega))) .nil) ?_
   rw [hF]
   refine AWP.perm (List.Perm.cons _ (List.Perm.cons _ (ar_open hsp Sf).symm)) ?_
   (repeat refine WF ?_);refine AWP.region ?_;(repeat (first | refine WO ?_ | refine All.i fun X=>?_ | refine AllY.i fun Y=>?_));refine AOps.nil ?_;(repeat refine WN ?_)
   (refine AWP.ret ?_;(repeat (first | refine inB_r ?_ | refine andThen_r ?_));refine retQ_r ?_)
   rw [hb]
   exact Ends.sp [entsA (t.es.map (·.2))] (arS a) ⟨rfl,rfl⟩
  ·intro vs hvs
   obtain ⟨q,_,rfl⟩:=List.mem_map.1 hvs
   rfl
  ·exact .refl _
 ·have hb:a.ts[j].ks ≠ a.ts[x].ks:=of_decide_eq_false hb
  have hjx:j ≠ x:=fun e=>hb (by subst e;rfl)
  (repeat first | refine AOps.nil ?_ | refine WF ?_)
  refine AWP.perm (ar_open hsp Sf).symm ?_
  (repeat refine WF ?_);refine AWP.region ?_;(repeat (first | refine WO ?_ | refine All.i fun X=>?_ | refine AllY.i fun Y=>?_));refine AOps.nil ?_;(repeat refine WN ?_)
  exact lp_next (j + 1) (by omega)
theorem indexFuncOL_po (X:Nat) (l:List (List Int)) (f:FuncId) (cap:List AV) (p:(List Int) → Bool) (hs:st1s cap = true) (hl:l.length ≤ 4611686018427387904) (hf:∀ x ∈ l,PS Try.prog f ((intsA false) x :: cap) (bA (p x))):PO Try.prog 112 [.sl X 0 l.length,.fn f cap] X (.row 22 1 (l.map (intsA false))) (iA (idxF l p)) (.row 22 1 (l.map (intsA false))):=by
 refine Spec.of (nt:=19) (res:=[.tmp 4]) Try.func112 rfl (by kernel_rfl) rfl rfl rfl fun Sf=>?_
 (repeat (first | refine WK ?_ | refine All.i fun X=>?_ | refine AllY.i fun Y=>?_))
 refine AWP.lp (fun i:Nat=>⟨[(0,.sl X 0 l.length),(1,.fn f cap),(7,iA l.length),(8,iA i)],(X,.row 22 1 (l.map (intsA false))) :: Sf⟩) (fun i=>i ≤ l.length ∧ ∀ j (h:j < l.length),j < i → p l[j] = false) (fun i=>l.length - i) 0 ⟨Nat.zero_le _,fun j h hj=>absurd hj (by omega)⟩ ?_
 rintro i ⟨hi,he⟩
 (repeat (first | refine WK ?_ | refine All.i fun X=>?_ | refine AllY.i fun Y=>?_))
 refine AWP.cond rfl (fun hc=>?_) (fun hc=>?_)
 ·have h:i < l.length:=by simpa using hc
  (repeat (first | (refine AOps.gN ?_;first | (refine AOps.g_callv ?_;first | refine AOps.k1 (h:=(hf _ (List.getElem_mem h))) (k:=?_))) | refine WK ?_ | refine All.i fun X=>?_ | refine AllY.i fun Y=>?_))
  refine AWP.cond rfl (fun hd=>?_) (fun hd=>?_)
  ·(repeat (first | refine WK ?_ | refine All.i fun X=>?_ | refine AllY.i fun Y=>?_))
   (refine AWP.ret ?_;(repeat (first | refine inB_r ?_ | refine andThen_r ?_));refine retQ_r ?_);refine Ends.po ?_ ?_
   ·rw [idxF_some h hd fun j hj=>he j (by omega) hj]
   ·rfl
  ·(repeat (first | refine WK ?_ | refine All.i fun X=>?_ | refine AllY.i fun Y=>?_))
   refine lp_next (i + 1) ⟨h,fun j h1 h2=>?_⟩
   by_cases e:j = i
   ·subst e;exact hd
   ·exact he j h1 (by omega)
 ·have h:¬ i < l.length:=by simpa using hc
  (repeat (first | refine WK ?_ | refine All.i fun X=>?_ | refine AllY.i fun Y=>?_))
  (refine AWP.ret ?_;(repeat (first | refine inB_r ?_ | refine andThen_r ?_));refine retQ_r ?_);refine Ends.po ?_ ?_
  ·rw [idxF_none fun j hj=>he j hj (by omega)]
  ·rfl
theorem deleteFuncL_sp (X:Nat) (l:List (List Int)) (f:FuncId) (cap:List AV) (p:(List Int) → Bool) (hs:st1s cap = true) (hl:l.length ≤ 4611686018427387903) (hf:∀ x ∈ l,PS Try.prog f ((intsA false) x :: cap) (bA (p x))):Spec Try.prog 85 [.sl X 0 l.length,.fn f cap] [(X,.row 22 1 (l.map (intsA false)))] fun r S'=>r = .lst true 22 1 ((l.filter fun x=>!p x).map (intsA false)) ∧ S' = []:=by
 refine Spec.of (nt:=42) (res:=[.tmp 4]) Try.func85 rfl (by kernel_rfl) rfl rfl rfl fun Sf=>?_
 have h0:=indexFuncOL_po X l f cap p hs (by omega) hf
 have hr:=idxF_range l p
 obtain ⟨v,hv⟩:∃ v,idxF l p = v:=⟨_,rfl⟩
 rw [hv] at h0 hr
 (repeat (first | (refine AOps.gN ?_;first | (refine AOps.g_callf ?_;first | refine AOps.o2 (h:=(h0 ..)) (k:=?_))) | refine WK ?_ | refine All.i fun X=>?_ | refine AllY.i fun Y=>?_))
 refine AWP.cond rfl (fun hc=>?_) (fun hc=>?_)
 ·have hc:v = -1:=by simpa using hc
  have hall:(l.filter fun x=>!p x) = l:=by
   rw [List.filter_eq_self]
   intro x hx
   have h1:l.findIdx? p = none:=by
    unfold idxF at hv
    split at hv
    ·omega
    ·assumption
   rw [List.findIdx?_eq_none_iff] at h1
   simp [h1 x hx]
  rw [hall]
  (repeat (first | refine WK ?_ | refine All.i fun X=>?_ | refine AllY.i fun Y=>?_))
  (refine AWP.ret ?_;(repeat (first | refine inB_r ?_ | refine andThen_r ?_));refine retQ_r ?_)
  exact ⟨[.sl X 0 l.length],[.lst true 22 1 (l.map (intsA false))],_,[],.cons (.tmp rfl) rfl .nil,.cons (.cell (.sl (p:=0) .here (by simp))) .nil,by exact Sub.f,rfl,rfl⟩
 ·have hc:v ≠ -1:=by simpa using hc
  obtain ⟨i0,hi0⟩:∃ i0:Nat,v = i0:=⟨v.toNat,by omega⟩
  subst hi0
  have hfi:l.findIdx? p = some i0:=by
   unfold idxF at hv
   split at hv
   ·rename_i i hi;rw [hi];congr 1;omega
   ·omega
  obtain ⟨hil,hpi,hmin⟩:=List.findIdx?_eq_some_iff_getElem.1 hfi
  have ht0:(l.take (i0 + 1)).filter (fun x=>!p x) = l.take i0:=by
   rw [List.take_succ_eq_append_getElem hil,List.filter_append]
   rw [show ([l[i0]].filter fun x=>!p x) = [] by simp [hpi],List.append_nil,List.filter_eq_self]
   intro x hx
   obtain ⟨j,hj,rfl⟩:=List.mem_take_iff_getElem.1 hx
   have:=hmin j (by omega)
   simp at this ⊢
   exact this
  (repeat (first | refine WK ?_ | refine All.i fun X=>?_ | refine AllY.i fun Y=>?_))
  refine AWP.lp3 (fun (i j:Nat) (M:List AV)=>⟨[(0,.sl X 0 l.length),(1,.fn f cap),(5,iA i),(6,iA j)],(X,.row 22 1 M) :: Sf⟩) (fun i j M=>i < j ∧ j ≤ l.length ∧ ∃ K:List (List Int),M = K.map (intsA false) ∧ K.length = l.length ∧ K.take i = ((l.take j).filter fun x=>!p x) ∧ K.drop j = l.drop j) (fun i j _=>l.length - j) i0 (i0 + 1) (l.map (intsA false)) ⟨by omega,hil,l,rfl,rfl,ht0.symm,rfl⟩ ?_
  rintro i j M ⟨hij,hj,K,rfl,hM,h1,h2⟩
  (repeat (first | refine WK ?_ | refine All.i fun X=>?_ | refine AllY.i fun Y=>?_))
  refine AWP.cond rfl (fun hd=>?_) (fun hd=>?_)
  ·have h:j < l.length:=by simpa using hd
   have hKj:K[j]? = some l[j]:=by
    have:=congrArg (fun z=>z[0]?) h2
    simpa [h] using this
   have hat:(K.map (intsA false))[j]? = some ((intsA false) l[j]):=by rw [List.getElem?_map,hKj];rfl
   have hKi:i < K.length:=by omega
   obtain ⟨b,hb⟩:∃ b,p l[j] = b:=⟨_,rfl⟩
   have hfj:=hf _ (List.getElem_mem h)
   rw [hb] at hfj
   have htk:(l.take (j + 1)).filter (fun x=>!p x) = (l.take j).filter (fun x=>!p x) ++ if b then [] else [l[j]]:=by
    rw [List.take_succ_eq_append_getElem h,List.filter_append]
    congr 1
    cases b <;> simp [hb]
   (repeat (first | (refine AOps.gN ?_;first | (refine AOps.g_callv ?_;first | refine AOps.k1 (h:=(hfj ..)) (k:=?_))) | refine WK ?_ | refine All.i fun X=>?_ | refine AllY.i fun Y=>?_))
   cases b
   ·refine AWP.cond_t rfl rfl ?_
    (repeat (first | refine WK ?_ | refine All.i fun X=>?_ | refine AllY.i fun Y=>?_))
    refine lp_next3 (i + 1) (j + 1) _ ⟨by omega,h,K.set i l[j],by rw [List.map_set],by simpa using hM,?_,?_⟩
    ·rw [htk,← h1,List.take_add_one,List.take_set,List.set_eq_of_length_le (by rw [List.length_take];omega),List.getElem?_set_self hKi]
     simp
    ·rw [List.drop_set_of_lt (by omega),← List.drop_drop,h2,List.drop_drop]
   ·refine AWP.cond_f rfl rfl ?_
    (repeat (first | refine WK ?_ | refine All.i fun X=>?_ | refine AllY.i fun Y=>?_))
    refine lp_next3 i (j + 1) _ ⟨by omega,h,K,rfl,hM,?_,?_⟩
    ·rw [h1,htk];simp
    ·rw [← List.drop_drop,h2,List.drop_drop]
  ·have h:j = l.length:=by rw [decide_eq_false_iff_not] at hd;omega
   subst h
   have h1':K.take i = l.filter fun x=>!p x:=by rw [h1,List.take_length]
   have hKl:(K.map (intsA false)).length = l.length:=by rw [List.length_map,hM]
   have hki:∀ A B,(List.take (0 + i) (K.map (intsA false)) ++ A ++ B).take i = (l.filter fun x=>!p x).map (intsA false):=fun A B=>by
    rw [Nat.zero_add,List.append_assoc,List.take_append_of_le_length (by rw [List.length_take];omega),List.take_take,Nat.min_self,← List.map_take,h1']
   have hfl:i = ((l.filter fun x=>!p x).map (intsA false)).length:=by
    rw [← h1',List.length_map,List.length_take];omega
   (repeat (first | (refine AOps.gN ?_;first | refine AOps.s (W.slice_lo rfl rfl (by exact At.f) rfl (by omega)) rfl ?_ | refine AOps.s (W.clear rfl (by exact At.f) (by first | exact .inl rfl | exact .inr rfl) rfl (by omega)) rfl ?_ | refine AOps.p (W.hi rfl rfl (by exact At.f) rfl (by omega)) rfl ?_) | refine WK ?_ | refine All.i fun X=>?_ | refine AllY.i fun Y=>?_))
   refine AWP.shrink (X:=X) i ?_
   rw [hki]
   (refine AWP.ret ?_;(repeat (first | refine inB_r ?_ | refine andThen_r ?_));refine retQ_r ?_)
   exact ⟨[.sl X 0 i],[.lst true 22 1 ((l.filter fun x=>!p x).map (intsA false))],_,[],.cons (.tmp rfl) rfl .nil,.cons (.cell (.sl (p:=0) .here hfl)) .nil,by exact Sub.f,rfl,rfl⟩
section
open Go.Sort
set_option maxHeartbeats 1000000 in
theorem insE_po (f:FuncId) (cap:List AV) (cf:Ent → Ent → Int) (hst:st1s cap = true) (hcf:∀ x y,PS Try.prog f (entA x :: entA y :: cap) (iA (cf x y))) (X n:Nat) (d:Array Ent) (a b:Nat) (hn:n = d.size) (hab:a ≤ b) (hb:b ≤ d.size) (hz:d.size ≤ 1099511627776):PO Try.prog 114 [.sl X 0 n,iA a,iA b,.fn f cap] X (.row 52 2 (d.toList.map entA)) (.tup []) (.row 52 2 ((insertionSort (ltOf cf) d a b).toList.map entA)):=by
 obtain ⟨r,hr⟩:∃ r,insertionSort (ltOf cf) d a b = r:=⟨_,rfl⟩
 rw [hr]
 unfold insertionSort at hr
 refine Spec.of (nt:=53) (res:=[]) Try.func114 rfl (by kernel_rfl) rfl rfl rfl fun Sf=>?_
 (repeat (first | refine WK ?_ | refine All.i fun X=>?_ | refine AllY.i fun Y=>?_))
 refine AWP.lp2 (fun (i:Nat) (e:Array Ent)=>⟨[(0,.sl X 0 n),(1,iA a),(2,iA b),(3,.fn f cap),(8,iA i)],(X,.row 52 2 (e.toList.map entA)) :: Sf⟩) (fun i e=>i ≤ max b (a + 1) ∧ a < i ∧ e.size = d.size ∧ insOuter (ltOf cf) a b i e = r) (fun i _=>b - i) (a + 1) d ⟨by omega,by omega,rfl,hr⟩ ?_
 rintro i e ⟨hi,hai,he,hfold⟩
 rw [insOuter] at hfold
 (repeat (first | refine WK ?_ | refine All.i fun X=>?_ | refine AllY.i fun Y=>?_))
 refine AWP.cond rfl (fun hc=>?_) (fun hc=>?_)
 ·have h:i < b:=by have:=of_decide_eq_true hc;omega
  rw [if_pos h] at hfold
  (repeat (first | refine WK ?_ | refine All.i fun X=>?_ | refine AllY.i fun Y=>?_))
  refine AWP.lp2 (fun (j:Nat) (u:Array Ent)=>⟨[(0,.sl X 0 n),(1,iA a),(2,iA b),(3,.fn f cap),(8,iA i),(9,iA j)],(X,.row 52 2 (u.toList.map entA)) :: Sf⟩) (fun j u=>j ≤ i ∧ u.size = d.size ∧ insInner (ltOf cf) a j u = insInner (ltOf cf) a i e) (fun j _=>j) i e ⟨Nat.le_refl _,he,rfl⟩ ?_
  rintro j u ⟨hj,hu,hin⟩
  rcases Bool.eq_false_or_eq_true (decide ((a:Int) < (j:Int))) with g | g
  ·have hja:a < j:=by have:=of_decide_eq_true g;omega
   obtain ⟨q,rfl⟩:∃ q,j = q + 1:=⟨j - 1,by omega⟩
   have h1:=arr_at entA (d:=u) (i:=q + 1) (by omega)
   have h2:=arr_at entA (d:=u) (i:=q) (by omega)
   have hl:=hcf (u[q + 1]!) (u[q]!)
   rw [insInner] at hin
   (repeat refine WF ?_)
   (repeat refine WF ?_);refine AWP.region_run (by kernel_rfl) (by kernel_rfl) ?_;(repeat (first | (refine RGo.gN ?_;first | (refine RGo.g_callv ?_;first | refine RGo.k2 (h:=(hl ..)) (k:=?_)) | refine RGo.go (h:=W.subE (q:Int) (by omega) (by omega) rfl rfl) (k:=?_)) | (refine RGo.gQ ?_;first | (refine RGo.g_callv ?_;first | refine RGo.k2 (h:=(hl ..)) (k:=?_)) | refine RGo.go (h:=W.subE (q:Int) (by omega) (by omega) rfl rfl) (k:=?_)) | refine RK ?_ | refine RGo.nil (by kernel_rfl) ?_))
   (repeat refine WF ?_)
   refine AWP.cond rfl (fun hd=>?_) (fun hd=>?_)
   ·have hd:(ltOf cf) u[q + 1]! u[q]! = true:=by simpa [g,ltOf] using hd
    rw [hd,if_pos (by simp;omega)] at hin
    obtain ⟨y,hy⟩:=arr_set2 entA (d:=u) (i:=q + 1) (j:=q) (by omega) u[q]!
    (repeat refine WF ?_)
    (repeat refine WF ?_);refine AWP.region_run (by kernel_rfl) (by kernel_rfl) ?_;(repeat (first | (refine RGo.gN ?_;first | refine RGo.go (h:=W.subE (q:Int) (by omega) (by omega) rfl rfl) (k:=?_) | refine RGo.s (W.store rfl rfl (by exact At.f) hy (by exact rfl)) rfl ?_) | (refine RGo.gQ ?_;first | refine RGo.go (h:=W.subE (q:Int) (by omega) (by omega) rfl rfl) (k:=?_) | refine RGo.s (W.store rfl rfl (by exact At.f) hy (by exact rfl)) rfl ?_) | refine RK ?_ | refine RGo.nil (by kernel_rfl) ?_))
    (repeat (first | (refine AOps.gN ?_;first | refine AOps.p (W.subE (q:Int) (by omega) (by omega) rfl rfl) rfl ?_) | refine WK ?_ | refine All.i fun X=>?_ | refine AllY.i fun Y=>?_))
    refine lp_next2 q (swp u (q + 1) q) ⟨by omega,by rw [size_swp];exact hu,hin⟩ (h0:=by rw [← arr_swp entA (by omega) (by omega)];exact ⟨by exact Lk.f,by exact Sub.f⟩)
   ·have hd:(ltOf cf) u[q + 1]! u[q]! = false:=by simpa [g,ltOf] using hd
    rw [hd,if_neg (by simp)] at hin
    (repeat (first | refine WK ?_ | refine All.i fun X=>?_ | refine AllY.i fun Y=>?_))
    refine lp_next2 (i + 1) u ⟨by omega,by omega,hu,by rw [hin];exact hfold⟩
  ·have hja:j ≤ a:=by have:=of_decide_eq_false g;omega
   have hin2:insInner (ltOf cf) a j u = u:=by
    cases j with
    | zero=>rfl
    | succ q=>rw [insInner,if_neg (by simp;omega)]
   rw [hin2] at hin
   (repeat refine WF ?_)
   (repeat refine WF ?_);refine AWP.region_run (by kernel_rfl) (by kernel_rfl) ?_;(repeat (first | refine RK ?_ | refine RGo.nil (by kernel_rfl) ?_))
   (repeat refine WF ?_)
   refine AWP.cond_f rfl (by simp [g]) ?_
   (repeat (first | refine WK ?_ | refine All.i fun X=>?_ | refine AllY.i fun Y=>?_))
   refine lp_next2 (i + 1) u ⟨by omega,by omega,hu,by rw [hin];exact hfold⟩
 ·have h:¬ i < b:=by have:=of_decide_eq_false hc;omega
  rw [if_neg h] at hfold
  subst hfold
  (repeat (first | refine WK ?_ | refine All.i fun X=>?_ | refine AllY.i fun Y=>?_))
  refine retQ_n ?_
  exact Ends.void [(X,.row 52 2 (e.toList.map entA))] ⟨rfl,rfl⟩
end
section
open Go.Sort
set_option maxHeartbeats 1000000 in
theorem siftE_po (f:FuncId) (cap:List AV) (cf:Ent → Ent → Int) (hst:st1s cap = true) (hcf:∀ x y,PS Try.prog f (entA x :: entA y :: cap) (iA (cf x y))) (X n:Nat) (d:Array Ent) (lo hi first:Nat) (hn:n = d.size) (hb:first + hi ≤ d.size) (hlo:lo ≤ 1099511627776) (hz:d.size ≤ 1099511627776):PO Try.prog 139 [.sl X 0 n,iA lo,iA hi,iA first,.fn f cap] X (.row 52 2 (d.toList.map entA)) (.tup []) (.row 52 2 ((siftDown (ltOf cf) hi first lo d).toList.map entA)):=by
 obtain ⟨r,hr⟩:∃ r,siftDown (ltOf cf) hi first lo d = r:=⟨_,rfl⟩
 rw [hr]
 refine Spec.of (nt:=82) (res:=[]) Try.func139 rfl (by kernel_rfl) rfl rfl rfl fun Sf=>?_
 (repeat (first | refine WK ?_ | refine All.i fun X=>?_ | refine AllY.i fun Y=>?_))
 refine AWP.lp2 (fun (root:Nat) (u:Array Ent)=>⟨[(0,.sl X 0 n),(2,iA hi),(3,iA first),(4,.fn f cap),(10,iA root)],(X,.row 52 2 (u.toList.map entA)) :: Sf⟩) (fun root u=>root ≤ max hi lo ∧ u.size = d.size ∧ siftDown (ltOf cf) hi first root u = r) (fun root _=>hi - root) lo d ⟨by omega,rfl,hr⟩ ?_
 rintro root u ⟨hro,hu,hfold⟩
 rw [siftDown] at hfold
 (repeat (first | (refine AOps.gN ?_;first | refine AOps.p (W.mulE ((2 * root:Nat):Int) (by omega) (by omega) rfl rfl) rfl ?_ | refine AOps.p (W.addE (((2 * root + 1:Nat):Int)) (by omega) (by omega) rfl rfl) rfl ?_) | refine WK ?_ | refine All.i fun X=>?_ | refine AllY.i fun Y=>?_))
 refine AWP.cond rfl (fun hc=>?_) (fun hc=>?_)
 ·have h:2 * root + 1 ≥ hi:=by have:=of_decide_eq_true hc;omega
  rw [dif_pos h] at hfold
  subst hfold
  (repeat (first | refine WK ?_ | refine All.i fun X=>?_ | refine AllY.i fun Y=>?_))
  refine retQ_n ?_
  exact Ends.void [(X,.row 52 2 (u.toList.map entA))] ⟨rfl,rfl⟩
 have h:¬ 2 * root + 1 ≥ hi:=by have:=of_decide_eq_false hc;omega
 rw [dif_neg h] at hfold
 refine AWP.skip ?_
 refine andThen_n ?_
 refine AWP.seq ?_
 refine AWP.joinS (fun c:Nat=>c < hi ∧ root < c ∧ (if !(ltOf cf) u[first + root]! u[first + c]! then u else siftDown (ltOf cf) hi first c (swp u (first + root) (first + c))) = r) (fun c=>⟨[(0,.sl X 0 n),(2,iA hi),(3,iA first),(4,.fn f cap),(10,iA root),(11,iA c)],(X,.row 52 2 (u.toList.map entA)) :: Sf⟩) ?_ ?_
 ·rcases Bool.eq_false_or_eq_true (decide (((2 * root + 1 + 1:Nat):Int) < (hi:Int))) with g | g
  ·have hg:2 * root + 1 + 1 < hi:=by have:=of_decide_eq_true g;omega
   have h1:=arr_at entA (d:=u) (i:=first + (2 * root + 1)) (by omega)
   have h2:=arr_at entA (d:=u) (i:=first + (2 * root + 1) + 1) (by omega)
   have hl:=hcf (u[first + (2 * root + 1)]!) (u[first + (2 * root + 1) + 1]!)
   (repeat refine WF ?_);refine AWP.region_run (by kernel_rfl) (by kernel_rfl) ?_;(repeat (first | (refine RGo.gN ?_;first | (refine RGo.g_callv ?_;first | refine RGo.k2 (h:=(hl ..)) (k:=?_)) | refine RGo.go (h:=W.addE (((2 * root + 1 + 1:Nat):Int)) (by omega) (by omega) rfl rfl) (k:=?_) | refine RGo.go (h:=W.addE (((first + (2 * root + 1):Nat):Int)) (by omega) (by omega) rfl rfl) (k:=?_) | refine RGo.go (h:=W.addE (((first + (2 * root + 1) + 1:Nat):Int)) (by omega) (by omega) rfl rfl) (k:=?_)) | (refine RGo.gQ ?_;first | (refine RGo.g_callv ?_;first | refine RGo.k2 (h:=(hl ..)) (k:=?_)) | refine RGo.go (h:=W.addE (((2 * root + 1 + 1:Nat):Int)) (by omega) (by omega) rfl rfl) (k:=?_) | refine RGo.go (h:=W.addE (((first + (2 * root + 1):Nat):Int)) (by omega) (by omega) rfl rfl) (k:=?_) | refine RGo.go (h:=W.addE (((first + (2 * root + 1) + 1:Nat):Int)) (by omega) (by omega) rfl rfl) (k:=?_)) | refine RK ?_ | refine RGo.nil (by kernel_rfl) ?_))
   (repeat refine WF ?_)
   refine AWP.cond rfl (fun hd=>?_) (fun hd=>?_)
   ·have hd:(ltOf cf) u[first + (2 * root + 1)]! u[first + (2 * root + 1) + 1]! = true:=by simpa [g,ltOf] using hd
    rw [hd,if_pos (by simp;omega)] at hfold
    (repeat (first | (refine AOps.gN ?_;first | refine AOps.p (W.addE (((2 * root + 2:Nat):Int)) (by omega) (by omega) rfl rfl) rfl ?_) | refine WK ?_ | refine All.i fun X=>?_ | refine AllY.i fun Y=>?_))
    refine jn (2 * root + 2) ⟨by omega,by omega,?_⟩
    split at hfold
    ·rename_i hx;rw [if_pos hx];exact hfold
    ·rename_i hx;rw [if_neg hx];first | exact hfold | (rw [dif_pos (by omega)] at hfold;exact hfold)
   ·have hd:(ltOf cf) u[first + (2 * root + 1)]! u[first + (2 * root + 1) + 1]! = false:=by simpa [g,ltOf] using hd
    rw [hd,if_neg (by simp)] at hfold
    (repeat (first | refine WK ?_ | refine All.i fun X=>?_ | refine AllY.i fun Y=>?_))
    exact jn (2 * root + 1) ⟨by omega,by omega,hfold⟩
  ·have hg:¬ 2 * root + 1 + 1 < hi:=by have:=of_decide_eq_false g;omega
   rw [if_neg (by simp [hg])] at hfold
   (repeat refine WF ?_);refine AWP.region_run (by kernel_rfl) (by kernel_rfl) ?_;(repeat (first | (refine RGo.gN ?_;first | refine RGo.go (h:=W.addE (((2 * root + 1 + 1:Nat):Int)) (by omega) (by omega) rfl rfl) (k:=?_)) | (refine RGo.gQ ?_;first | refine RGo.go (h:=W.addE (((2 * root + 1 + 1:Nat):Int)) (by omega) (by omega) rfl rfl) (k:=?_)) | refine RK ?_ | refine RGo.nil (by kernel_rfl) ?_))
   (repeat refine WF ?_)
   refine AWP.cond_f rfl (by simp [g]) ?_
   (repeat (first | refine WK ?_ | refine All.i fun X=>?_ | refine AllY.i fun Y=>?_))
   exact jn (2 * root + 1) ⟨by omega,by omega,hfold⟩
 ·rintro c ⟨hch,hrc,hfold⟩
  have h1:=arr_at entA (d:=u) (i:=first + root) (by omega)
  have h2:=arr_at entA (d:=u) (i:=first + c) (by omega)
  have hl:=hcf (u[first + root]!) (u[first + c]!)
  (repeat refine WF ?_)
  (repeat refine WF ?_);refine AWP.region_run (by kernel_rfl) (by kernel_rfl) ?_;(repeat (first | (refine RGo.gN ?_;first | (refine RGo.g_callv ?_;first | refine RGo.k2 (h:=(hl ..)) (k:=?_)) | refine RGo.go (h:=W.addE (((first + root:Nat):Int)) (by omega) (by omega) rfl rfl) (k:=?_) | refine RGo.go (h:=W.addE (((first + c:Nat):Int)) (by omega) (by omega) rfl rfl) (k:=?_)) | (refine RGo.gQ ?_;first | (refine RGo.g_callv ?_;first | refine RGo.k2 (h:=(hl ..)) (k:=?_)) | refine RGo.go (h:=W.addE (((first + root:Nat):Int)) (by omega) (by omega) rfl rfl) (k:=?_) | refine RGo.go (h:=W.addE (((first + c:Nat):Int)) (by omega) (by omega) rfl rfl) (k:=?_)) | refine RK ?_ | refine RGo.nil (by kernel_rfl) ?_))
  (repeat refine WF ?_)
  refine AWP.cond rfl (fun hd=>?_) (fun hd=>?_)
  ·have hd:(!(ltOf cf) u[first + root]! u[first + c]!) = true:=by simpa [ltOf] using hd
   rw [if_pos hd] at hfold
   subst hfold
   (refine AWP.ret ?_;(repeat (first | refine inB_r ?_ | refine andThen_r ?_));refine retQ_r ?_)
   exact Ends.void [(X,.row 52 2 (u.toList.map entA))] ⟨rfl,rfl⟩
  ·have hd:(!(ltOf cf) u[first + root]! u[first + c]!) = false:=by simpa [ltOf] using hd
   rw [if_neg (by rw [hd];simp)] at hfold
   obtain ⟨y,hy⟩:=arr_set2 entA (d:=u) (i:=first + root) (j:=first + c) (by omega) u[first + c]!
   (repeat refine WF ?_)
   (repeat refine WF ?_);refine AWP.region_run (by kernel_rfl) (by kernel_rfl) ?_;(repeat (first | (refine RGo.gN ?_;first | refine RGo.go (h:=W.addE (((first + root:Nat):Int)) (by omega) (by omega) rfl rfl) (k:=?_) | refine RGo.go (h:=W.addE (((first + c:Nat):Int)) (by omega) (by omega) rfl rfl) (k:=?_) | refine RGo.s (W.store rfl rfl (by exact At.f) hy (by exact rfl)) rfl ?_) | (refine RGo.gQ ?_;first | refine RGo.go (h:=W.addE (((first + root:Nat):Int)) (by omega) (by omega) rfl rfl) (k:=?_) | refine RGo.go (h:=W.addE (((first + c:Nat):Int)) (by omega) (by omega) rfl rfl) (k:=?_) | refine RGo.s (W.store rfl rfl (by exact At.f) hy (by exact rfl)) rfl ?_) | refine RK ?_ | refine RGo.nil (by kernel_rfl) ?_))
   (repeat (first | refine WK ?_ | refine All.i fun X=>?_ | refine AllY.i fun Y=>?_))
   refine lp_next2 c (swp u (first + root) (first + c)) ⟨by omega,by rw [size_swp];exact hu,hfold⟩ (h0:=by rw [← arr_swp entA (by omega) (by omega)];exact ⟨by exact Lk.f,by exact Sub.f⟩)
set_option maxHeartbeats 1000000 in
theorem siftDown_sizeE (lt:Ent → Ent → Bool) (hi first:Nat):∀ (k root:Nat) (d:Array Ent),hi - root ≤ k → (siftDown lt hi first root d).size = d.size
 | 0,root,d,h=>by rw [siftDown,dif_pos (by omega)]
 | k + 1,root,d,h=>by
  rw [siftDown]
  split
  ·rfl
  ·split
   ·split
    ·rfl
    ·split
     ·rw [siftDown_sizeE lt hi first k _ _ (by omega),size_swp]
     ·rfl
   ·split
    ·rfl
    ·rw [siftDown_sizeE lt hi first k _ _ (by omega),size_swp]
theorem heapE_po (f:FuncId) (cap:List AV) (cf:Ent → Ent → Int) (hst:st1s cap = true) (hcf:∀ x y,PS Try.prog f (entA x :: entA y :: cap) (iA (cf x y))) (X n:Nat) (d:Array Ent) (a b:Nat) (hn:n = d.size) (hab:a < b) (hb:b ≤ d.size) (hz:d.size ≤ 1099511627776):PO Try.prog 115 [.sl X 0 n,iA a,iA b,.fn f cap] X (.row 52 2 (d.toList.map entA)) (.tup []) (.row 52 2 ((heapSort (ltOf cf) d a b).toList.map entA)):=by
 obtain ⟨r,hr⟩:∃ r,heapSort (ltOf cf) d a b = r:=⟨_,rfl⟩
 rw [hr]
 unfold heapSort at hr
 obtain ⟨m,hm⟩:∃ m,b - a = m:=⟨_,rfl⟩
 rw [hm] at hr
 refine Spec.of (nt:=60) (res:=[]) Try.func115 rfl (by kernel_rfl) rfl rfl rfl fun Sf=>?_
 (repeat (first | (refine AOps.gN ?_;first | refine AOps.p (W.subE ((m:Int)) (by omega) (by omega) rfl rfl) rfl ?_ | refine AOps.p (W.subE (((m - 1:Nat):Int)) (by omega) (by omega) rfl rfl) rfl ?_ | refine AOps.p (W.quoN (m - 1) 2 ((m - 1) / 2) rfl rfl (by omega) rfl (by omega) rfl rfl) rfl ?_) | refine WK ?_ | refine All.i fun X=>?_ | refine AllY.i fun Y=>?_))
 refine AWP.lp2 (fun (k:Nat) (u:Array Ent)=>⟨[(0,.sl X 0 n),(3,.fn f cap),(8,iA a),(9,iA 0),(10,iA m),(11,iA ((k:Int) - 1))],(X,.row 52 2 (u.toList.map entA)) :: Sf⟩) (fun k u=>k ≤ m ∧ u.size = d.size ∧ heapPop (ltOf cf) a m (heapBuild (ltOf cf) m a k u) = r) (fun k _=>k) ((m - 1) / 2 + 1) d ⟨by omega,rfl,hr⟩ ?_ (h0:=by rw [show ((((m - 1) / 2 + 1:Nat):Int) - 1) = (((m - 1) / 2:Nat):Int) by omega];exact ⟨by exact Lk.f,by exact Sub.f⟩)
 rintro k u ⟨hk,hu,hfold⟩
 (repeat (first | refine WK ?_ | refine All.i fun X=>?_ | refine AllY.i fun Y=>?_))
 refine AWP.cond rfl (fun hc=>?_) (fun hc=>?_)
 ·obtain ⟨q,rfl⟩:∃ q,k = q + 1:=⟨k - 1,by have:=of_decide_eq_true hc;omega⟩
  rw [heapBuild] at hfold
  have hs:=siftE_po f cap cf hst hcf X n u q m a (by omega) (by omega) (by omega) (by omega)
  have hsz:=siftDown_sizeE (ltOf cf) m a _ q u (Nat.le_refl _)
  rw [show (((q + 1:Nat):Int) - 1) = (q:Int) by omega]
  (repeat (first | (refine AOps.gN ?_;first | (refine AOps.g_callf ?_;first | refine AOps.o5 (h:=(hs ..)) (k:=?_)) | refine AOps.p (W.subE ((q:Int) - 1) (by omega) (by omega) rfl rfl) rfl ?_) | refine WK ?_ | refine All.i fun X=>?_ | refine AllY.i fun Y=>?_))
  exact lp_next2 q (siftDown (ltOf cf) m a q u) ⟨by omega,by omega,hfold⟩
 ·obtain rfl:k = 0:=by have:=of_decide_eq_false hc;omega
  rw [heapBuild] at hfold
  (repeat (first | (refine AOps.gN ?_;first | refine AOps.p (W.subE ((m:Int) - 1) (by omega) (by omega) rfl rfl) rfl ?_) | refine WK ?_ | refine All.i fun X=>?_ | refine AllY.i fun Y=>?_))
  clear hc hk
  refine AWP.lp2 (fun (k:Nat) (u:Array Ent)=>⟨[(0,.sl X 0 n),(3,.fn f cap),(8,iA a),(9,iA 0),(10,iA m),(12,iA ((k:Int) - 1))],(X,.row 52 2 (u.toList.map entA)) :: Sf⟩) (fun k u=>k ≤ m ∧ u.size = d.size ∧ heapPop (ltOf cf) a k u = r) (fun k _=>k) m u ⟨by omega,hu,hfold⟩ ?_
  clear hfold hu
  rintro k u ⟨hk,hu,hfold⟩
  (repeat (first | refine WK ?_ | refine All.i fun X=>?_ | refine AllY.i fun Y=>?_))
  refine AWP.cond rfl (fun hc=>?_) (fun hc=>?_)
  ·obtain ⟨q,rfl⟩:∃ q,k = q + 1:=⟨k - 1,by have:=of_decide_eq_true hc;omega⟩
   rw [heapPop] at hfold
   have h1:=arr_at entA (d:=u) (i:=a) (by omega)
   have h2:=arr_at entA (d:=u) (i:=a + q) (by omega)
   have hs:=siftE_po f cap cf hst hcf X n (swp u a (a + q)) 0 q a (by rw [size_swp];omega) (by rw [size_swp];omega) (by omega) (by rw [size_swp];omega)
   have hsz:=siftDown_sizeE (ltOf cf) q a _ 0 (swp u a (a + q)) (Nat.le_refl _)
   rw [size_swp] at hsz
   rw [show (((q + 1:Nat):Int) - 1) = (q:Int) by omega]
   obtain ⟨y,hy⟩:=arr_set2 entA (d:=u) (i:=a) (j:=a + q) (by omega) u[a + q]!
   have hrow:=arr_swp entA (d:=u) (i:=a) (j:=a + q) (by omega) (by omega)
   (repeat refine WF ?_)
   (repeat refine WF ?_);refine AWP.region_run (by kernel_rfl) (by kernel_rfl) ?_;(repeat (first | (refine RGo.gN ?_;first | refine RGo.go (h:=W.addE (((a + q:Nat):Int)) (by omega) (by omega) rfl rfl) (k:=?_) | refine RGo.s (W.store rfl rfl (by exact At.f) hy (by exact rfl)) rfl ?_) | (refine RGo.gQ ?_;first | refine RGo.go (h:=W.addE (((a + q:Nat):Int)) (by omega) (by omega) rfl rfl) (k:=?_) | refine RGo.s (W.store rfl rfl (by exact At.f) hy (by exact rfl)) rfl ?_) | refine RK ?_ | refine RGo.nil (by kernel_rfl) ?_))
   refine AWP.as [(0,.sl X 0 n),(3,.fn f cap),(8,iA a),(9,iA 0),(10,iA m),(12,iA q)] ((X,.row 52 2 ((swp u a (a + q)).toList.map entA)) :: Sf) ?_ (h:=by rw [← hrow];exact ⟨by exact Lk.f,by exact Sub.f⟩)
   (repeat (first | (refine AOps.gN ?_;first | (refine AOps.g_callf ?_;first | refine AOps.o5 (h:=(hs ..)) (k:=?_)) | refine AOps.p (W.subE ((q:Int) - 1) (by omega) (by omega) rfl rfl) rfl ?_) | refine WK ?_ | refine All.i fun X=>?_ | refine AllY.i fun Y=>?_))
   exact lp_next2 q (siftDown (ltOf cf) q a 0 (swp u a (a + q))) ⟨by omega,by omega,hfold⟩
  ·obtain rfl:k = 0:=by have:=of_decide_eq_false hc;omega
   rw [heapPop] at hfold
   subst hfold
   (repeat (first | refine WK ?_ | refine All.i fun X=>?_ | refine AllY.i fun Y=>?_))
   refine retQ_n ?_
   exact Ends.void [(X,.row 52 2 (u.toList.map entA))] ⟨rfl,rfl⟩
set_option maxHeartbeats 1000000 in
theorem revE_po {f:FuncId} {cap:List AV} (X n:Nat) (d:Array Ent) (a b:Nat) (hn:n = d.size) (hab:a < b) (hb:b ≤ d.size) (hz:d.size ≤ 1099511627776):PO Try.prog 118 [.sl X 0 n,iA a,iA b,.fn f cap] X (.row 52 2 (d.toList.map entA)) (.tup []) (.row 52 2 ((reverseRange d a b).toList.map entA)):=by
 obtain ⟨r,hr⟩:∃ r,reverseRange d a b = r:=⟨_,rfl⟩
 rw [hr]
 unfold reverseRange at hr
 refine Spec.of (nt:=34) (res:=[]) Try.func118 rfl (by kernel_rfl) rfl rfl rfl fun Sf=>?_
 (repeat (first | (refine AOps.gN ?_;first | refine AOps.p (W.subE (((b - 1:Nat):Int)) (by omega) (by omega) rfl rfl) rfl ?_) | refine WK ?_ | refine All.i fun X=>?_ | refine AllY.i fun Y=>?_))
 refine AWP.lp3 (fun (i j:Nat) (u:Array Ent)=>⟨[(0,.sl X 0 n),(8,iA i),(9,iA j)],(X,.row 52 2 (u.toList.map entA)) :: Sf⟩) (fun i j u=>i ≤ d.size ∧ j < d.size ∧ u.size = d.size ∧ reverseLoop i j u = r) (fun i j _=>j - i) a (b - 1) d ⟨by omega,by omega,rfl,hr⟩ ?_
 rintro i j u ⟨hi,hj,hu,hfold⟩
 rw [reverseLoop] at hfold
 (repeat (first | refine WK ?_ | refine All.i fun X=>?_ | refine AllY.i fun Y=>?_))
 refine AWP.cond rfl (fun hc=>?_) (fun hc=>?_)
 ·have h:i < j:=by have:=of_decide_eq_true hc;omega
  rw [if_pos h] at hfold
  have h1:=arr_at entA (d:=u) (i:=i) (by omega)
  have h2:=arr_at entA (d:=u) (i:=j) (by omega)
  obtain ⟨y,hy⟩:=arr_set2 entA (d:=u) (i:=i) (j:=j) (by omega) u[j]!
  (repeat refine WF ?_)
  (repeat refine WF ?_);refine AWP.region_run (by kernel_rfl) (by kernel_rfl) ?_;(repeat (first | (refine RGo.gN ?_;first | refine RGo.s (W.store rfl rfl (by exact At.f) hy (by exact rfl)) rfl ?_) | (refine RGo.gQ ?_;first | refine RGo.s (W.store rfl rfl (by exact At.f) hy (by exact rfl)) rfl ?_) | refine RK ?_ | refine RGo.nil (by kernel_rfl) ?_))
  (repeat (first | (refine AOps.gN ?_;first | refine AOps.p (W.subE (((j - 1:Nat):Int)) (by omega) (by omega) rfl rfl) rfl ?_) | refine WK ?_ | refine All.i fun X=>?_ | refine AllY.i fun Y=>?_))
  refine lp_next3 (i + 1) (j - 1) (swp u i j) ⟨by omega,by omega,by rw [size_swp];exact hu,hfold⟩ (h0:=by rw [← arr_swp entA (by omega) (by omega)];exact ⟨by exact Lk.f,by exact Sub.f⟩)
 ·have h:¬ i < j:=by have:=of_decide_eq_false hc;omega
  rw [if_neg h] at hfold
  subst hfold
  (repeat (first | refine WK ?_ | refine All.i fun X=>?_ | refine AllY.i fun Y=>?_))
  refine retQ_n ?_
  exact Ends.void [(X,.row 52 2 (u.toList.map entA))] ⟨rfl,rfl⟩
end
section
open Go.Sort
set_option maxHeartbeats 1000000 in
theorem scanUp_leE (p:Ent → Bool) (d:Array Ent) (j i:Nat):scanUp p d j i ≤ max i (j + 1):=by
 obtain ⟨m,hm⟩:∃ m,j + 1 - i = m:=⟨_,rfl⟩
 induction m generalizing i with
 | zero=>rw [scanUp,if_neg (fun e=>by rw [Bool.and_eq_true] at e;have:=of_decide_eq_true e.1;omega)];omega
 | succ m ih =>
  rw [scanUp]
  split
  ·have:=ih (i + 1) (by omega)
   omega
  ·omega
theorem peqE_po (f:FuncId) (cap:List AV) (cf:Ent → Ent → Int) (hst:st1s cap = true) (hcf:∀ x y,PS Try.prog f (entA x :: entA y :: cap) (iA (cf x y))) (X n:Nat) (d:Array Ent) (a b pivot:Nat) (hn:n = d.size) (ha:a ≤ pivot) (hp:pivot < b) (hb:b ≤ d.size) (hz:d.size ≤ 1099511627776):PO Try.prog 120 [.sl X 0 n,iA a,iA b,iA pivot,.fn f cap] X (.row 52 2 (d.toList.map entA)) (iA (partitionEqual (ltOf cf) d a b pivot).1) (.row 52 2 ((partitionEqual (ltOf cf) d a b pivot).2.toList.map entA)):=by
 obtain ⟨r,hr⟩:∃ r,partitionEqual (ltOf cf) d a b pivot = r:=⟨_,rfl⟩
 rw [hr]
 unfold partitionEqual at hr
 refine Spec.of (nt:=90) (res:=[.tmp 10]) Try.func120 rfl (by kernel_rfl) rfl rfl rfl fun Sf=>?_
 have h1:=arr_at entA (d:=d) (i:=a) (by omega)
 have h2:=arr_at entA (d:=d) (i:=pivot) (by omega)
 obtain ⟨y,hy⟩:=arr_set2 entA (d:=d) (i:=a) (j:=pivot) (by omega) d[pivot]!
 (repeat refine WF ?_);refine AWP.region ?_;(repeat (first | refine WO ?_ | refine All.i fun X=>?_ | refine AllY.i fun Y=>?_));refine AOps.nil ?_;(repeat refine WN ?_)
 (repeat refine WF ?_);refine AWP.region_run (by kernel_rfl) (by kernel_rfl) ?_;(repeat (first | (refine RGo.gN ?_;first | refine RGo.s (W.store rfl rfl (by exact At.f) hy (by exact rfl)) rfl ?_) | (refine RGo.gQ ?_;first | refine RGo.s (W.store rfl rfl (by exact At.f) hy (by exact rfl)) rfl ?_) | refine RK ?_ | refine RGo.nil (by kernel_rfl) ?_))
 (repeat (first | (refine AOps.gN ?_;first | refine AOps.p (W.subE (((b - 1:Nat):Int)) (by omega) (by omega) rfl rfl) rfl ?_) | refine WK ?_ | refine All.i fun X=>?_ | refine AllY.i fun Y=>?_))
 refine AWP.lp3 (fun (i j:Nat) (u:Array Ent)=>⟨[(0,.sl X 0 n),(1,iA a),(4,.fn f cap),(11,iA i),(12,iA j)],(X,.row 52 2 (u.toList.map entA)) :: Sf⟩) (fun i j u=>a < i ∧ i ≤ j + 2 ∧ j < b ∧ u.size = d.size ∧ partEqLoop (ltOf cf) a i j u = r) (fun i j _=>j + 1 - i) (a + 1) (b - 1) (swp d a pivot) ⟨by omega,by omega,by omega,by rw [size_swp],hr⟩ ?_ (h0:=by rw [← arr_swp entA (by omega) (by omega)];exact ⟨by exact Lk.f,by exact Sub.f⟩)
 rintro i j u ⟨hai,hij,hjb,hu,hfold⟩
 rw [partEqLoop_eq] at hfold
 obtain ⟨i2,hi2⟩:∃ i2,scanUp (fun x=>!(ltOf cf) u[a]! x) u j i = i2:=⟨_,rfl⟩
 rw [hi2] at hfold
 obtain ⟨j2,hj2⟩:∃ j2,scanDown (fun x=>(ltOf cf) u[a]! x) u i2 j = j2:=⟨_,rfl⟩
 rw [hj2] at hfold
 have hge:=scanUp_ge (fun x=>!(ltOf cf) u[a]! x) u j i
 have hle:=scanDown_le (fun x=>(ltOf cf) u[a]! x) u i2 j
 rw [hi2] at hge
 rw [hj2] at hle
 have hge2:i2 ≤ max i (j + 1):=by rw [← hi2];exact scanUp_leE _ _ _ _
 refine AWP.block ?_
 (repeat (first | refine AWP.skip ?_ | refine andThen_n ?_ | refine AWP.seq ?_))
 refine AWP.joinS (fun k:Nat=>k = i2) (fun k=>⟨[(0,.sl X 0 n),(1,iA a),(4,.fn f cap),(11,iA k),(12,iA j)],(X,.row 52 2 (u.toList.map entA)) :: Sf⟩) ?_ ?_
 ·refine AWP.block ?_
  refine AWP.lp (fun (k:Nat)=>⟨[(0,.sl X 0 n),(1,iA a),(4,.fn f cap),(11,iA k),(12,iA j)],(X,.row 52 2 (u.toList.map entA)) :: Sf⟩) (fun k=>i ≤ k ∧ k ≤ max i (j + 1) ∧ scanUp (fun x=>!(ltOf cf) u[a]! x) u j k = i2) (fun k=>j + 1 - k) i ⟨Nat.le_refl _,by omega,hi2⟩ ?_
  rintro k ⟨hk1,hk2,hk⟩
  rw [scanUp] at hk
  rcases Bool.eq_false_or_eq_true (decide ((k:Int) ≤ (j:Int))) with g | g
  ·have hg:k ≤ j:=by have:=of_decide_eq_true g;omega
   have h1:=arr_at entA (d:=u) (i:=k) (by omega)
   have h2:=arr_at entA (d:=u) (i:=a) (by omega)
   have hl:=hcf (u[a]!) (u[k]!)
   (repeat refine WF ?_)
   (repeat refine WF ?_);refine AWP.region_run (by kernel_rfl) (by kernel_rfl) ?_;(repeat (first | (refine RGo.gN ?_;first | (refine RGo.g_callv ?_;first | refine RGo.k2 (h:=(hl ..)) (k:=?_))) | (refine RGo.gQ ?_;first | (refine RGo.g_callv ?_;first | refine RGo.k2 (h:=(hl ..)) (k:=?_))) | refine RK ?_ | refine RGo.nil (by kernel_rfl) ?_))
   (repeat refine WF ?_)
   refine AWP.cond rfl (fun hd=>?_) (fun hd=>?_)
   ·have hd:(!(ltOf cf) u[a]! u[k]!) = true:=by simpa [g,ltOf] using hd
    rw [if_pos (by rw [Bool.and_eq_true];exact ⟨decide_eq_true (by omega),hd⟩)] at hk
    (repeat (first | refine WK ?_ | refine All.i fun X=>?_ | refine AllY.i fun Y=>?_))
    exact lp_next (k + 1) ⟨by omega,by omega,hk⟩
   ·have hd:(!(ltOf cf) u[a]! u[k]!) = false:=by simpa [g,ltOf] using hd
    rw [if_neg (fun e=>by rw [Bool.and_eq_true] at e;have e2:=e.2;rw [hd] at e2;cases e2)] at hk
    (repeat (first | refine WK ?_ | refine All.i fun X=>?_ | refine AllY.i fun Y=>?_))
    exact jn k hk
  ·have hg:¬ k ≤ j:=by have:=of_decide_eq_false g;omega
   rw [if_neg (fun e=>by rw [Bool.and_eq_true] at e;have:=of_decide_eq_true e.1;omega)] at hk
   (repeat refine WF ?_)
   (repeat refine WF ?_);refine AWP.region_run (by kernel_rfl) (by kernel_rfl) ?_;(repeat (first | refine RK ?_ | refine RGo.nil (by kernel_rfl) ?_))
   (repeat refine WF ?_)
   refine AWP.cond_f rfl (by simp [g]) ?_
   (repeat (first | refine WK ?_ | refine All.i fun X=>?_ | refine AllY.i fun Y=>?_))
   exact jn k hk
 rintro k hk0
 rw [hk0]
 clear hk0 k
 (repeat (first | refine AWP.skip ?_ | refine andThen_n ?_ | refine AWP.seq ?_))
 refine AWP.joinS (fun k:Nat=>k = j2) (fun k=>⟨[(0,.sl X 0 n),(1,iA a),(4,.fn f cap),(11,iA i2),(12,iA k)],(X,.row 52 2 (u.toList.map entA)) :: Sf⟩) ?_ ?_
 ·refine AWP.block ?_
  refine AWP.lp (fun (k:Nat)=>⟨[(0,.sl X 0 n),(1,iA a),(4,.fn f cap),(11,iA i2),(12,iA k)],(X,.row 52 2 (u.toList.map entA)) :: Sf⟩) (fun k=>k ≤ j ∧ scanDown (fun x=>(ltOf cf) u[a]! x) u i2 k = j2) (fun k=>k) j ⟨Nat.le_refl _,hj2⟩ ?_
  rintro k ⟨hk1,hk⟩
  rcases Bool.eq_false_or_eq_true (decide ((i2:Int) ≤ (k:Int))) with g | g
  ·have hg:i2 ≤ k:=by have:=of_decide_eq_true g;omega
   obtain ⟨q,rfl⟩:∃ q,k = q + 1:=⟨k - 1,by omega⟩
   rw [scanDown] at hk
   have h1:=arr_at entA (d:=u) (i:=q + 1) (by omega)
   have h2:=arr_at entA (d:=u) (i:=a) (by omega)
   have hl:=hcf (u[a]!) (u[q + 1]!)
   (repeat refine WF ?_)
   (repeat refine WF ?_);refine AWP.region_run (by kernel_rfl) (by kernel_rfl) ?_;(repeat (first | (refine RGo.gN ?_;first | (refine RGo.g_callv ?_;first | refine RGo.k2 (h:=(hl ..)) (k:=?_))) | (refine RGo.gQ ?_;first | (refine RGo.g_callv ?_;first | refine RGo.k2 (h:=(hl ..)) (k:=?_))) | refine RK ?_ | refine RGo.nil (by kernel_rfl) ?_))
   (repeat refine WF ?_)
   refine AWP.cond rfl (fun hd=>?_) (fun hd=>?_)
   ·have hd:((ltOf cf) u[a]! u[q + 1]!) = true:=by simpa [g,ltOf] using hd
    rw [if_pos (by rw [Bool.and_eq_true];exact ⟨decide_eq_true (by omega),hd⟩)] at hk
    (repeat (first | (refine AOps.gN ?_;first | refine AOps.p (W.subE ((q:Int)) (by omega) (by omega) rfl rfl) rfl ?_) | refine WK ?_ | refine All.i fun X=>?_ | refine AllY.i fun Y=>?_))
    exact lp_next q ⟨by omega,hk⟩
   ·have hd:((ltOf cf) u[a]! u[q + 1]!) = false:=by simpa [g,ltOf] using hd
    rw [if_neg (fun e=>by rw [Bool.and_eq_true] at e;have e2:=e.2;rw [hd] at e2;cases e2)] at hk
    (repeat (first | refine WK ?_ | refine All.i fun X=>?_ | refine AllY.i fun Y=>?_))
    exact jn (q + 1) hk
  ·have hg:¬ i2 ≤ k:=by have:=of_decide_eq_false g;omega
   have hk3:scanDown (fun x=>(ltOf cf) u[a]! x) u i2 k = k:=by
    cases k with
    | zero=>rfl
    | succ q=>rw [scanDown,if_neg (fun e=>by rw [Bool.and_eq_true] at e;have:=of_decide_eq_true e.1;omega)]
   rw [hk3] at hk
   (repeat refine WF ?_)
   (repeat refine WF ?_);refine AWP.region_run (by kernel_rfl) (by kernel_rfl) ?_;(repeat (first | refine RK ?_ | refine RGo.nil (by kernel_rfl) ?_))
   (repeat refine WF ?_)
   refine AWP.cond_f rfl (by simp [g]) ?_
   (repeat (first | refine WK ?_ | refine All.i fun X=>?_ | refine AllY.i fun Y=>?_))
   exact jn k hk
 rintro k hk0
 rw [hk0]
 clear hk0 k
 (repeat (first | refine WK ?_ | refine All.i fun X=>?_ | refine AllY.i fun Y=>?_))
 refine AWP.cond rfl (fun hc=>?_) (fun hc=>?_)
 ·have h:i2 > j2:=by have:=of_decide_eq_true hc;omega
  rw [if_pos h] at hfold
  subst hfold
  (repeat (first | refine WK ?_ | refine All.i fun X=>?_ | refine AllY.i fun Y=>?_))
  (refine AWP.ret ?_;(repeat (first | refine inB_r ?_ | refine andThen_r ?_));refine retQ_r ?_)
  exact Ends.sp [iA i2] [(X,_)] ⟨rfl,rfl⟩
 ·have h:¬ i2 > j2:=by have:=of_decide_eq_false hc;omega
  rw [if_neg h] at hfold
  have h1:=arr_at entA (d:=u) (i:=i2) (by omega)
  have h2:=arr_at entA (d:=u) (i:=j2) (by omega)
  obtain ⟨y,hy⟩:=arr_set2 entA (d:=u) (i:=i2) (j:=j2) (by omega) u[j2]!
  (repeat refine WF ?_)
  (repeat refine WF ?_);refine AWP.region_run (by kernel_rfl) (by kernel_rfl) ?_;(repeat (first | (refine RGo.gN ?_;first | refine RGo.s (W.store rfl rfl (by exact At.f) hy (by exact rfl)) rfl ?_) | (refine RGo.gQ ?_;first | refine RGo.s (W.store rfl rfl (by exact At.f) hy (by exact rfl)) rfl ?_) | refine RK ?_ | refine RGo.nil (by kernel_rfl) ?_))
  (repeat (first | (refine AOps.gN ?_;first | refine AOps.p (W.subE (((j2 - 1:Nat):Int)) (by omega) (by omega) rfl rfl) rfl ?_) | refine WK ?_ | refine All.i fun X=>?_ | refine AllY.i fun Y=>?_))
  refine lp_next3 (i2 + 1) (j2 - 1) (swp u i2 j2) ⟨by omega,by omega,by omega,by rw [size_swp];exact hu,hfold⟩ (h0:=by rw [← arr_swp entA (by omega) (by omega)];exact ⟨by exact Lk.f,by exact Sub.f⟩)
set_option maxHeartbeats 1000000 in
theorem partE_po (f:FuncId) (cap:List AV) (cf:Ent → Ent → Int) (hst:st1s cap = true) (hcf:∀ x y,PS Try.prog f (entA x :: entA y :: cap) (iA (cf x y))) (X n:Nat) (d:Array Ent) (a b pivot:Nat) (hn:n = d.size) (ha:a ≤ pivot) (hp:pivot < b) (hb:b ≤ d.size) (hz:d.size ≤ 1099511627776):PO Try.prog 121 [.sl X 0 n,iA a,iA b,iA pivot,.fn f cap] X (.row 52 2 (d.toList.map entA)) (.tup [iA (partition (ltOf cf) d a b pivot).1,bA (partition (ltOf cf) d a b pivot).2.1]) (.row 52 2 ((partition (ltOf cf) d a b pivot).2.2.toList.map entA)):=by
 obtain ⟨r,hr⟩:∃ r,partition (ltOf cf) d a b pivot = r:=⟨_,rfl⟩
 rw [hr]
 dsimp only [partition] at hr
 refine Spec.of (nt:=178) (res:=[.tmp 10,.tmp 11]) Try.func121 rfl (by kernel_rfl) rfl rfl rfl fun Sf=>?_
 have h1:=arr_at entA (d:=d) (i:=a) (by omega)
 have h2:=arr_at entA (d:=d) (i:=pivot) (by omega)
 have hrow:=arr_swp entA (d:=d) (i:=a) (j:=pivot) (by omega) (by omega)
 obtain ⟨y,hy⟩:=arr_set2 entA (d:=d) (i:=a) (j:=pivot) (by omega) d[pivot]!
 (repeat refine WF ?_);refine AWP.region ?_;(repeat (first | refine WO ?_ | refine All.i fun X=>?_ | refine AllY.i fun Y=>?_));refine AOps.nil ?_;(repeat refine WN ?_)
 (repeat refine WF ?_);refine AWP.region_run (by kernel_rfl) (by kernel_rfl) ?_;(repeat (first | (refine RGo.gN ?_;first | refine RGo.s (W.store rfl rfl (by exact At.f) hy (by exact rfl)) rfl ?_) | (refine RGo.gQ ?_;first | refine RGo.s (W.store rfl rfl (by exact At.f) hy (by exact rfl)) rfl ?_) | refine RK ?_ | refine RGo.nil (by kernel_rfl) ?_))
 have hsz:(swp d a pivot).size = d.size:=size_swp _ _ _
 obtain ⟨u,hu0⟩:∃ u,swp d a pivot = u:=⟨_,rfl⟩
 rw [hu0] at hr hrow hsz
 obtain ⟨j,hj⟩:∃ j,b - 1 = j:=⟨_,rfl⟩
 obtain ⟨i,hi⟩:∃ i,a + 1 = i:=⟨_,rfl⟩
 rw [hj,hi] at hr
 (repeat refine WF ?_);refine AWP.region ?_;(repeat (first | (refine AOps.gN ?_;first | refine AOps.p (W.subE ((j:Int)) (by omega) (by omega) rfl rfl) rfl ?_ | refine AOps.p (W.addE (((i:Nat):Int)) (by omega) (by omega) rfl rfl) rfl ?_) | refine WO ?_ | refine All.i fun X=>?_ | refine AllY.i fun Y=>?_));refine AOps.nil ?_;(repeat refine WN ?_)
 (repeat (first | refine AWP.skip ?_ | refine andThen_n ?_ | refine AWP.seq ?_))
 refine AWP.as [(0,.sl X 0 n),(1,iA a),(4,.fn f cap),(12,iA i),(13,iA j)] ((X,.row 52 2 (u.toList.map entA)) :: Sf) ?_ (h:=by rw [← hrow];exact ⟨by exact Lk.f,by exact Sub.f⟩)
 have hu:u.size = d.size:=hsz
 have hfold:=hr
 obtain ⟨i2,hi2⟩:∃ i2,scanUp (fun x=>(ltOf cf) x u[a]!) u j i = i2:=⟨_,rfl⟩
 rw [hi2] at hfold
 obtain ⟨j2,hj2⟩:∃ j2,scanDown (fun x=>!(ltOf cf) x u[a]!) u i2 j = j2:=⟨_,rfl⟩
 rw [hj2] at hfold
 have hge:=scanUp_ge (fun x=>(ltOf cf) x u[a]!) u j i
 have hle:=scanDown_le (fun x=>!(ltOf cf) x u[a]!) u i2 j
 rw [hi2] at hge
 rw [hj2] at hle
 have hge2:i2 ≤ max i (j + 1):=by rw [← hi2];exact scanUp_leE _ _ _ _
 refine AWP.joinS (fun k:Nat=>k = i2) (fun k=>⟨[(0,.sl X 0 n),(1,iA a),(4,.fn f cap),(12,iA k),(13,iA j)],(X,.row 52 2 (u.toList.map entA)) :: Sf⟩) ?_ ?_
 ·refine AWP.block ?_
  refine AWP.lp (fun (k:Nat)=>⟨[(0,.sl X 0 n),(1,iA a),(4,.fn f cap),(12,iA k),(13,iA j)],(X,.row 52 2 (u.toList.map entA)) :: Sf⟩) (fun k=>i ≤ k ∧ k ≤ max i (j + 1) ∧ scanUp (fun x=>(ltOf cf) x u[a]!) u j k = i2) (fun k=>j + 1 - k) i ⟨Nat.le_refl _,by omega,hi2⟩ ?_
  rintro k ⟨hk1,hk2,hk⟩
  rw [scanUp] at hk
  rcases Bool.eq_false_or_eq_true (decide ((k:Int) ≤ (j:Int))) with g | g
  ·have hg:k ≤ j:=by have:=of_decide_eq_true g;omega
   have h1:=arr_at entA (d:=u) (i:=k) (by omega)
   have h2:=arr_at entA (d:=u) (i:=a) (by omega)
   have hl:=hcf (u[k]!) (u[a]!)
   (repeat refine WF ?_)
   (repeat refine WF ?_);refine AWP.region_run (by kernel_rfl) (by kernel_rfl) ?_;(repeat (first | (refine RGo.gN ?_;first | (refine RGo.g_callv ?_;first | refine RGo.k2 (h:=(hl ..)) (k:=?_))) | (refine RGo.gQ ?_;first | (refine RGo.g_callv ?_;first | refine RGo.k2 (h:=(hl ..)) (k:=?_))) | refine RK ?_ | refine RGo.nil (by kernel_rfl) ?_))
   (repeat refine WF ?_)
   refine AWP.cond rfl (fun hd=>?_) (fun hd=>?_)
   ·have hd:((ltOf cf) u[k]! u[a]!) = true:=by simpa [g,ltOf] using hd
    rw [if_pos (by rw [Bool.and_eq_true];exact ⟨decide_eq_true (by omega),hd⟩)] at hk
    (repeat (first | refine WK ?_ | refine All.i fun X=>?_ | refine AllY.i fun Y=>?_))
    exact lp_next (k + 1) ⟨by omega,by omega,hk⟩
   ·have hd:((ltOf cf) u[k]! u[a]!) = false:=by simpa [g,ltOf] using hd
    rw [if_neg (fun e=>by rw [Bool.and_eq_true] at e;have e2:=e.2;rw [hd] at e2;cases e2)] at hk
    (repeat (first | refine WK ?_ | refine All.i fun X=>?_ | refine AllY.i fun Y=>?_))
    exact jn k hk
  ·have hg:¬ k ≤ j:=by have:=of_decide_eq_false g;omega
   rw [if_neg (fun e=>by rw [Bool.and_eq_true] at e;have:=of_decide_eq_true e.1;omega)] at hk
   (repeat refine WF ?_)
   (repeat refine WF ?_);refine AWP.region_run (by kernel_rfl) (by kernel_rfl) ?_;(repeat (first | refine RK ?_ | refine RGo.nil (by kernel_rfl) ?_))
   (repeat refine WF ?_)
   refine AWP.cond_f rfl (by simp [g]) ?_
   (repeat (first | refine WK ?_ | refine All.i fun X=>?_ | refine AllY.i fun Y=>?_))
   exact jn k hk
 rintro k hk0
 rw [hk0]
 clear hk0 k
 (repeat (first | refine AWP.skip ?_ | refine andThen_n ?_ | refine AWP.seq ?_))
 refine AWP.joinS (fun k:Nat=>k = j2) (fun k=>⟨[(0,.sl X 0 n),(1,iA a),(4,.fn f cap),(12,iA i2),(13,iA k)],(X,.row 52 2 (u.toList.map entA)) :: Sf⟩) ?_ ?_
 ·refine AWP.block ?_
  refine AWP.lp (fun (k:Nat)=>⟨[(0,.sl X 0 n),(1,iA a),(4,.fn f cap),(12,iA i2),(13,iA k)],(X,.row 52 2 (u.toList.map entA)) :: Sf⟩) (fun k=>k ≤ j ∧ scanDown (fun x=>!(ltOf cf) x u[a]!) u i2 k = j2) (fun k=>k) j ⟨Nat.le_refl _,hj2⟩ ?_
  rintro k ⟨hk1,hk⟩
  rcases Bool.eq_false_or_eq_true (decide ((i2:Int) ≤ (k:Int))) with g | g
  ·have hg:i2 ≤ k:=by have:=of_decide_eq_true g;omega
   obtain ⟨q,rfl⟩:∃ q,k = q + 1:=⟨k - 1,by omega⟩
   rw [scanDown] at hk
   have h1:=arr_at entA (d:=u) (i:=q + 1) (by omega)
   have h2:=arr_at entA (d:=u) (i:=a) (by omega)
   have hl:=hcf (u[q + 1]!) (u[a]!)
   (repeat refine WF ?_)
   (repeat refine WF ?_);refine AWP.region_run (by kernel_rfl) (by kernel_rfl) ?_;(repeat (first | (refine RGo.gN ?_;first | (refine RGo.g_callv ?_;first | refine RGo.k2 (h:=(hl ..)) (k:=?_))) | (refine RGo.gQ ?_;first | (refine RGo.g_callv ?_;first | refine RGo.k2 (h:=(hl ..)) (k:=?_))) | refine RK ?_ | refine RGo.nil (by kernel_rfl) ?_))
   (repeat refine WF ?_)
   refine AWP.cond rfl (fun hd=>?_) (fun hd=>?_)
   ·have hd:(!(ltOf cf) u[q + 1]! u[a]!) = true:=by simpa [g,ltOf] using hd
    rw [if_pos (by rw [Bool.and_eq_true];exact ⟨decide_eq_true (by omega),hd⟩)] at hk
    (repeat (first | (refine AOps.gN ?_;first | refine AOps.p (W.subE ((q:Int)) (by omega) (by omega) rfl rfl) rfl ?_) | refine WK ?_ | refine All.i fun X=>?_ | refine AllY.i fun Y=>?_))
    exact lp_next q ⟨by omega,hk⟩
   ·have hd:(!(ltOf cf) u[q + 1]! u[a]!) = false:=by simpa [g,ltOf] using hd
    rw [if_neg (fun e=>by rw [Bool.and_eq_true] at e;have e2:=e.2;rw [hd] at e2;cases e2)] at hk
    (repeat (first | refine WK ?_ | refine All.i fun X=>?_ | refine AllY.i fun Y=>?_))
    exact jn (q + 1) hk
  ·have hg:¬ i2 ≤ k:=by have:=of_decide_eq_false g;omega
   have hk3:scanDown (fun x=>!(ltOf cf) x u[a]!) u i2 k = k:=by
    cases k with
    | zero=>rfl
    | succ q=>rw [scanDown,if_neg (fun e=>by rw [Bool.and_eq_true] at e;have:=of_decide_eq_true e.1;omega)]
   rw [hk3] at hk
   (repeat refine WF ?_)
   (repeat refine WF ?_);refine AWP.region_run (by kernel_rfl) (by kernel_rfl) ?_;(repeat (first | refine RK ?_ | refine RGo.nil (by kernel_rfl) ?_))
   (repeat refine WF ?_)
   refine AWP.cond_f rfl (by simp [g]) ?_
   (repeat (first | refine WK ?_ | refine All.i fun X=>?_ | refine AllY.i fun Y=>?_))
   exact jn k hk
 rintro k hk0
 rw [hk0]
 clear hk0 k
 (repeat (first | refine WK ?_ | refine All.i fun X=>?_ | refine AllY.i fun Y=>?_))
 refine AWP.cond rfl (fun hc=>?_) (fun hc=>?_)
 ·have h:i2 > j2:=by have:=of_decide_eq_true hc;omega
  rw [if_pos h] at hfold
  subst hfold
  have h1:=arr_at entA (d:=u) (i:=j2) (by omega)
  have h2:=arr_at entA (d:=u) (i:=a) (by omega)
  have hrow2:=arr_swp entA (d:=u) (i:=j2) (j:=a) (by omega) (by omega)
  obtain ⟨y,hy⟩:=arr_set2 entA (d:=u) (i:=j2) (j:=a) (by omega) u[a]!
  (repeat refine WF ?_)
  (repeat refine WF ?_);refine AWP.region_run (by kernel_rfl) (by kernel_rfl) ?_;(repeat (first | (refine RGo.gN ?_;first | refine RGo.s (W.store rfl rfl (by exact At.f) hy (by exact rfl)) rfl ?_) | (refine RGo.gQ ?_;first | refine RGo.s (W.store rfl rfl (by exact At.f) hy (by exact rfl)) rfl ?_) | refine RK ?_ | refine RGo.nil (by kernel_rfl) ?_))
  (repeat (first | refine WK ?_ | refine All.i fun X=>?_ | refine AllY.i fun Y=>?_))
  (refine AWP.ret ?_;(repeat (first | refine inB_r ?_ | refine andThen_r ?_));refine retQ_r ?_)
  exact Ends.sp [iA j2,bA true] [(X,_)] ⟨rfl,by rw [← hrow2]⟩
 have h:¬ i2 > j2:=by have:=of_decide_eq_false hc;omega
 rw [if_neg h] at hfold
 obtain ⟨pr,hpr⟩:∃ pr,partLoop (ltOf cf) a (i2 + 1) (j2 - 1) (swp u i2 j2) = pr:=⟨_,rfl⟩
 rw [hpr] at hfold
 have h1:=arr_at entA (d:=u) (i:=i2) (by omega)
 have h2:=arr_at entA (d:=u) (i:=j2) (by omega)
 clear y hy
 obtain ⟨y,hy⟩:=arr_set2 entA (d:=u) (i:=i2) (j:=j2) (by omega) u[j2]!
 (repeat refine WF ?_)
 (repeat refine WF ?_);refine AWP.region_run (by kernel_rfl) (by kernel_rfl) ?_;(repeat (first | (refine RGo.gN ?_;first | refine RGo.s (W.store rfl rfl (by exact At.f) hy (by exact rfl)) rfl ?_) | (refine RGo.gQ ?_;first | refine RGo.s (W.store rfl rfl (by exact At.f) hy (by exact rfl)) rfl ?_) | refine RK ?_ | refine RGo.nil (by kernel_rfl) ?_))
 (repeat (first | (refine AOps.gN ?_;first | refine AOps.p (W.subE (((j2 - 1:Nat):Int)) (by omega) (by omega) rfl rfl) rfl ?_) | refine WK ?_ | refine All.i fun X=>?_ | refine AllY.i fun Y=>?_))
 refine AWP.lp3 (fun (i j:Nat) (u:Array Ent)=>⟨[(0,.sl X 0 n),(1,iA a),(4,.fn f cap),(12,iA i),(13,iA j)],(X,.row 52 2 (u.toList.map entA)) :: Sf⟩) (fun i j u=>a < i ∧ i ≤ j + 2 ∧ j < b ∧ u.size = d.size ∧ partLoop (ltOf cf) a i j u = pr) (fun i j _=>j + 1 - i) (i2 + 1) (j2 - 1) (swp u i2 j2) ⟨by omega,by omega,by omega,by rw [size_swp];exact hu,hpr⟩ ?_ (h0:=by rw [← arr_swp entA (by omega) (by omega)];exact ⟨by exact Lk.f,by exact Sub.f⟩)
 subst hfold
 clear hc h h1 h2 hpr hi2 hj2 hge hle hge2 hr hrow hu0 hu hsz hi hj hy y i2 j2 i j u
 rintro i j u ⟨hai,hij,hjb,hu,hfold⟩
 rw [partLoop_eq] at hfold
 obtain ⟨i2,hi2⟩:∃ i2,scanUp (fun x=>(ltOf cf) x u[a]!) u j i = i2:=⟨_,rfl⟩
 rw [hi2] at hfold
 obtain ⟨j2,hj2⟩:∃ j2,scanDown (fun x=>!(ltOf cf) x u[a]!) u i2 j = j2:=⟨_,rfl⟩
 rw [hj2] at hfold
 have hge:=scanUp_ge (fun x=>(ltOf cf) x u[a]!) u j i
 have hle:=scanDown_le (fun x=>!(ltOf cf) x u[a]!) u i2 j
 rw [hi2] at hge
 rw [hj2] at hle
 have hge2:i2 ≤ max i (j + 1):=by rw [← hi2];exact scanUp_leE _ _ _ _
 refine AWP.block ?_
 (repeat (first | refine AWP.skip ?_ | refine andThen_n ?_ | refine AWP.seq ?_))
 refine AWP.joinS (fun k:Nat=>k = i2) (fun k=>⟨[(0,.sl X 0 n),(1,iA a),(4,.fn f cap),(12,iA k),(13,iA j)],(X,.row 52 2 (u.toList.map entA)) :: Sf⟩) ?_ ?_
 ·refine AWP.block ?_
  refine AWP.lp (fun (k:Nat)=>⟨[(0,.sl X 0 n),(1,iA a),(4,.fn f cap),(12,iA k),(13,iA j)],(X,.row 52 2 (u.toList.map entA)) :: Sf⟩) (fun k=>i ≤ k ∧ k ≤ max i (j + 1) ∧ scanUp (fun x=>(ltOf cf) x u[a]!) u j k = i2) (fun k=>j + 1 - k) i ⟨Nat.le_refl _,by omega,hi2⟩ ?_
  rintro k ⟨hk1,hk2,hk⟩
  rw [scanUp] at hk
  rcases Bool.eq_false_or_eq_true (decide ((k:Int) ≤ (j:Int))) with g | g
  ·have hg:k ≤ j:=by have:=of_decide_eq_true g;omega
   have h1:=arr_at entA (d:=u) (i:=k) (by omega)
   have h2:=arr_at entA (d:=u) (i:=a) (by omega)
   have hl:=hcf (u[k]!) (u[a]!)
   (repeat refine WF ?_)
   (repeat refine WF ?_);refine AWP.region_run (by kernel_rfl) (by kernel_rfl) ?_;(repeat (first | (refine RGo.gN ?_;first | (refine RGo.g_callv ?_;first | refine RGo.k2 (h:=(hl ..)) (k:=?_))) | (refine RGo.gQ ?_;first | (refine RGo.g_callv ?_;first | refine RGo.k2 (h:=(hl ..)) (k:=?_))) | refine RK ?_ | refine RGo.nil (by kernel_rfl) ?_))
   (repeat refine WF ?_)
   refine AWP.cond rfl (fun hd=>?_) (fun hd=>?_)
   ·have hd:((ltOf cf) u[k]! u[a]!) = true:=by simpa [g,ltOf] using hd
    rw [if_pos (by rw [Bool.and_eq_true];exact ⟨decide_eq_true (by omega),hd⟩)] at hk
    (repeat (first | refine WK ?_ | refine All.i fun X=>?_ | refine AllY.i fun Y=>?_))
    exact lp_next (k + 1) ⟨by omega,by omega,hk⟩
   ·have hd:((ltOf cf) u[k]! u[a]!) = false:=by simpa [g,ltOf] using hd
    rw [if_neg (fun e=>by rw [Bool.and_eq_true] at e;have e2:=e.2;rw [hd] at e2;cases e2)] at hk
    (repeat (first | refine WK ?_ | refine All.i fun X=>?_ | refine AllY.i fun Y=>?_))
    exact jn k hk
  ·have hg:¬ k ≤ j:=by have:=of_decide_eq_false g;omega
   rw [if_neg (fun e=>by rw [Bool.and_eq_true] at e;have:=of_decide_eq_true e.1;omega)] at hk
   (repeat refine WF ?_)
   (repeat refine WF ?_);refine AWP.region_run (by kernel_rfl) (by kernel_rfl) ?_;(repeat (first | refine RK ?_ | refine RGo.nil (by kernel_rfl) ?_))
   (repeat refine WF ?_)
   refine AWP.cond_f rfl (by simp [g]) ?_
   (repeat (first | refine WK ?_ | refine All.i fun X=>?_ | refine AllY.i fun Y=>?_))
   exact jn k hk
 rintro k hk0
 rw [hk0]
 clear hk0 k
 (repeat (first | refine AWP.skip ?_ | refine andThen_n ?_ | refine AWP.seq ?_))
 refine AWP.joinS (fun k:Nat=>k = j2) (fun k=>⟨[(0,.sl X 0 n),(1,iA a),(4,.fn f cap),(12,iA i2),(13,iA k)],(X,.row 52 2 (u.toList.map entA)) :: Sf⟩) ?_ ?_
 ·refine AWP.block ?_
  refine AWP.lp (fun (k:Nat)=>⟨[(0,.sl X 0 n),(1,iA a),(4,.fn f cap),(12,iA i2),(13,iA k)],(X,.row 52 2 (u.toList.map entA)) :: Sf⟩) (fun k=>k ≤ j ∧ scanDown (fun x=>!(ltOf cf) x u[a]!) u i2 k = j2) (fun k=>k) j ⟨Nat.le_refl _,hj2⟩ ?_
  rintro k ⟨hk1,hk⟩
  rcases Bool.eq_false_or_eq_true (decide ((i2:Int) ≤ (k:Int))) with g | g
  ·have hg:i2 ≤ k:=by have:=of_decide_eq_true g;omega
   obtain ⟨q,rfl⟩:∃ q,k = q + 1:=⟨k - 1,by omega⟩
   rw [scanDown] at hk
   have h1:=arr_at entA (d:=u) (i:=q + 1) (by omega)
   have h2:=arr_at entA (d:=u) (i:=a) (by omega)
   have hl:=hcf (u[q + 1]!) (u[a]!)
   (repeat refine WF ?_)
   (repeat refine WF ?_);refine AWP.region_run (by kernel_rfl) (by kernel_rfl) ?_;(repeat (first | (refine RGo.gN ?_;first | (refine RGo.g_callv ?_;first | refine RGo.k2 (h:=(hl ..)) (k:=?_))) | (refine RGo.gQ ?_;first | (refine RGo.g_callv ?_;first | refine RGo.k2 (h:=(hl ..)) (k:=?_))) | refine RK ?_ | refine RGo.nil (by kernel_rfl) ?_))
   (repeat refine WF ?_)
   refine AWP.cond rfl (fun hd=>?_) (fun hd=>?_)
   ·have hd:(!(ltOf cf) u[q + 1]! u[a]!) = true:=by simpa [g,ltOf] using hd
    rw [if_pos (by rw [Bool.and_eq_true];exact ⟨decide_eq_true (by omega),hd⟩)] at hk
    (repeat (first | (refine AOps.gN ?_;first | refine AOps.p (W.subE ((q:Int)) (by omega) (by omega) rfl rfl) rfl ?_) | refine WK ?_ | refine All.i fun X=>?_ | refine AllY.i fun Y=>?_))
    exact lp_next q ⟨by omega,hk⟩
   ·have hd:(!(ltOf cf) u[q + 1]! u[a]!) = false:=by simpa [g,ltOf] using hd
    rw [if_neg (fun e=>by rw [Bool.and_eq_true] at e;have e2:=e.2;rw [hd] at e2;cases e2)] at hk
    (repeat (first | refine WK ?_ | refine All.i fun X=>?_ | refine AllY.i fun Y=>?_))
    exact jn (q + 1) hk
  ·have hg:¬ i2 ≤ k:=by have:=of_decide_eq_false g;omega
   have hk3:scanDown (fun x=>!(ltOf cf) x u[a]!) u i2 k = k:=by
    cases k with
    | zero=>rfl
    | succ q=>rw [scanDown,if_neg (fun e=>by rw [Bool.and_eq_true] at e;have:=of_decide_eq_true e.1;omega)]
   rw [hk3] at hk
   (repeat refine WF ?_)
   (repeat refine WF ?_);refine AWP.region_run (by kernel_rfl) (by kernel_rfl) ?_;(repeat (first | refine RK ?_ | refine RGo.nil (by kernel_rfl) ?_))
   (repeat refine WF ?_)
   refine AWP.cond_f rfl (by simp [g]) ?_
   (repeat (first | refine WK ?_ | refine All.i fun X=>?_ | refine AllY.i fun Y=>?_))
   exact jn k hk
 rintro k hk0
 rw [hk0]
 clear hk0 k
 (repeat (first | refine WK ?_ | refine All.i fun X=>?_ | refine AllY.i fun Y=>?_))
 refine AWP.cond rfl (fun hc=>?_) (fun hc=>?_)
 ·have h:i2 > j2:=by have:=of_decide_eq_true hc;omega
  rw [if_pos h] at hfold
  subst hfold
  have h1:=arr_at entA (d:=u) (i:=j2) (by omega)
  have h2:=arr_at entA (d:=u) (i:=a) (by omega)
  have hrow2:=arr_swp entA (d:=u) (i:=j2) (j:=a) (by omega) (by omega)
  obtain ⟨y,hy⟩:=arr_set2 entA (d:=u) (i:=j2) (j:=a) (by omega) u[a]!
  (repeat refine WF ?_)
  (repeat refine WF ?_);refine AWP.region_run (by kernel_rfl) (by kernel_rfl) ?_;(repeat (first | (refine RGo.gN ?_;first | refine RGo.s (W.store rfl rfl (by exact At.f) hy (by exact rfl)) rfl ?_) | (refine RGo.gQ ?_;first | refine RGo.s (W.store rfl rfl (by exact At.f) hy (by exact rfl)) rfl ?_) | refine RK ?_ | refine RGo.nil (by kernel_rfl) ?_))
  (repeat (first | refine WK ?_ | refine All.i fun X=>?_ | refine AllY.i fun Y=>?_))
  (refine AWP.ret ?_;(repeat (first | refine inB_r ?_ | refine andThen_r ?_));refine retQ_r ?_)
  exact Ends.sp [iA j2,bA false] [(X,_)] ⟨rfl,by rw [← hrow2]⟩
 ·have h:¬ i2 > j2:=by have:=of_decide_eq_false hc;omega
  rw [if_neg h] at hfold
  have h1:=arr_at entA (d:=u) (i:=i2) (by omega)
  have h2:=arr_at entA (d:=u) (i:=j2) (by omega)
  obtain ⟨y,hy⟩:=arr_set2 entA (d:=u) (i:=i2) (j:=j2) (by omega) u[j2]!
  (repeat refine WF ?_)
  (repeat refine WF ?_);refine AWP.region_run (by kernel_rfl) (by kernel_rfl) ?_;(repeat (first | (refine RGo.gN ?_;first | refine RGo.s (W.store rfl rfl (by exact At.f) hy (by exact rfl)) rfl ?_) | (refine RGo.gQ ?_;first | refine RGo.s (W.store rfl rfl (by exact At.f) hy (by exact rfl)) rfl ?_) | refine RK ?_ | refine RGo.nil (by kernel_rfl) ?_))
  (repeat (first | (refine AOps.gN ?_;first | refine AOps.p (W.subE (((j2 - 1:Nat):Int)) (by omega) (by omega) rfl rfl) rfl ?_) | refine WK ?_ | refine All.i fun X=>?_ | refine AllY.i fun Y=>?_))
  refine lp_next3 (i2 + 1) (j2 - 1) (swp u i2 j2) ⟨by omega,by omega,by omega,by rw [size_swp];exact hu,hfold⟩ (h0:=by rw [← arr_swp entA (by omega) (by omega)];exact ⟨by exact Lk.f,by exact Sub.f⟩)
end
section
open Go.Sort
set_option maxHeartbeats 1000000 in
theorem scanSorted_rngE (lt:Ent → Ent → Bool) (d:Array Ent) (b i:Nat):i ≤ scanSorted lt d b i ∧ scanSorted lt d b i ≤ max i b:=by
 obtain ⟨m,hm⟩:∃ m,b - i = m:=⟨_,rfl⟩
 induction m generalizing i with
 | zero=>rw [scanSorted,if_neg (fun e=>by rw [Bool.and_eq_true] at e;have:=of_decide_eq_true e.1;omega)];omega
 | succ m ih =>
  rw [scanSorted]
  split
  ·have:=ih (i + 1) (by omega)
   omega
  ·omega
theorem pinsE_po (f:FuncId) (cap:List AV) (cf:Ent → Ent → Int) (hst:st1s cap = true) (hcf:∀ x y,PS Try.prog f (entA x :: entA y :: cap) (iA (cf x y))) (X n:Nat) (d:Array Ent) (a b:Nat) (hn:n = d.size) (hab:a < b) (hb:b ≤ d.size) (hz:d.size ≤ 1099511627776):PO Try.prog 119 [.sl X 0 n,iA a,iA b,.fn f cap] X (.row 52 2 (d.toList.map entA)) (bA (partialInsertionSort (ltOf cf) d a b).2) (.row 52 2 ((partialInsertionSort (ltOf cf) d a b).1.toList.map entA)):=by
 obtain ⟨r,hr⟩:∃ r,partialInsertionSort (ltOf cf) d a b = r:=⟨_,rfl⟩
 rw [hr]
 unfold partialInsertionSort at hr
 refine Spec.of (nt:=141) (res:=[.tmp 8]) Try.func119 rfl (by kernel_rfl) rfl rfl rfl fun Sf=>?_
 (repeat (first | (refine AOps.gN ?_;first | refine AOps.p (W.addE (((a + 1:Nat):Int)) (by omega) (by omega) rfl rfl) rfl ?_) | refine WK ?_ | refine All.i fun X=>?_ | refine AllY.i fun Y=>?_))
 refine AWP.lp3 (fun (c i:Nat) (u:Array Ent)=>⟨[(0,.sl X 0 n),(1,iA a),(2,iA b),(3,.fn f cap),(9,iA i),(10,iA c)],(X,.row 52 2 (u.toList.map entA)) :: Sf⟩) (fun c i u=>c ≤ 5 ∧ a < i ∧ i ≤ b ∧ u.size = d.size ∧ partialIns (ltOf cf) a b (5 - c) i u = r) (fun c _ _=>5 - c) 0 (a + 1) d ⟨by omega,by omega,by omega,rfl,hr⟩ ?_
 rintro c i u ⟨hc5,hai,hib,hu,hfold⟩
 (repeat (first | refine WK ?_ | refine All.i fun X=>?_ | refine AllY.i fun Y=>?_))
 refine AWP.cond rfl (fun hc=>?_) (fun hc=>?_)
 ·have h:c < 5:=by have:=of_decide_eq_true hc;omega
  obtain ⟨s,hs⟩:∃ s,5 - c = s + 1:=⟨4 - c,by omega⟩
  rw [hs,partialIns_succ] at hfold
  obtain ⟨i2,hi2⟩:∃ i2,scanSorted (ltOf cf) u b i = i2:=⟨_,rfl⟩
  rw [hi2] at hfold
  have hrg:=scanSorted_rngE (ltOf cf) u b i
  rw [hi2] at hrg
  (repeat (first | refine AWP.skip ?_ | refine andThen_n ?_ | refine AWP.seq ?_))
  refine AWP.block ?_
  (repeat (first | refine AWP.skip ?_ | refine andThen_n ?_ | refine AWP.seq ?_))
  refine AWP.joinS (fun k:Nat=>k = i2) (fun k=>⟨[(0,.sl X 0 n),(1,iA a),(2,iA b),(3,.fn f cap),(9,iA k),(10,iA c)],(X,.row 52 2 (u.toList.map entA)) :: Sf⟩) ?_ ?_
  ·refine AWP.block ?_
   refine AWP.lp (fun (k:Nat)=>⟨[(0,.sl X 0 n),(1,iA a),(2,iA b),(3,.fn f cap),(9,iA k),(10,iA c)],(X,.row 52 2 (u.toList.map entA)) :: Sf⟩) (fun k=>i ≤ k ∧ k ≤ b ∧ scanSorted (ltOf cf) u b k = i2) (fun k=>b - k) i ⟨Nat.le_refl _,hib,hi2⟩ ?_
   rintro k ⟨hk1,hk2,hk⟩
   rw [scanSorted] at hk
   rcases Bool.eq_false_or_eq_true (decide ((k:Int) < (b:Int))) with g | g
   ·have hg:k < b:=by have:=of_decide_eq_true g;omega
    have h1:=arr_at entA (d:=u) (i:=k) (by omega)
    have h2:=arr_at entA (d:=u) (i:=k - 1) (by omega)
    have hl:=hcf (u[k]!) (u[k - 1]!)
    (repeat refine WF ?_)
    (repeat refine WF ?_);refine AWP.region_run (by kernel_rfl) (by kernel_rfl) ?_;(repeat (first | (refine RGo.gN ?_;first | (refine RGo.g_callv ?_;first | refine RGo.k2 (h:=(hl ..)) (k:=?_)) | refine RGo.go (h:=W.subE (((k - 1:Nat):Int)) (by omega) (by omega) rfl rfl) (k:=?_)) | (refine RGo.gQ ?_;first | (refine RGo.g_callv ?_;first | refine RGo.k2 (h:=(hl ..)) (k:=?_)) | refine RGo.go (h:=W.subE (((k - 1:Nat):Int)) (by omega) (by omega) rfl rfl) (k:=?_)) | refine RK ?_ | refine RGo.nil (by kernel_rfl) ?_))
    (repeat refine WF ?_)
    refine AWP.cond rfl (fun hd=>?_) (fun hd=>?_)
    ·have hd:(!(ltOf cf) u[k]! u[k - 1]!) = true:=by simpa [g,ltOf] using hd
     rw [if_pos (by rw [Bool.and_eq_true];exact ⟨decide_eq_true (by omega),hd⟩)] at hk
     (repeat (first | refine WK ?_ | refine All.i fun X=>?_ | refine AllY.i fun Y=>?_))
     exact lp_next (k + 1) ⟨by omega,by omega,hk⟩
    ·have hd:(!(ltOf cf) u[k]! u[k - 1]!) = false:=by simpa [g,ltOf] using hd
     rw [if_neg (fun e=>by rw [Bool.and_eq_true] at e;have e2:=e.2;rw [hd] at e2;cases e2)] at hk
     (repeat (first | refine WK ?_ | refine All.i fun X=>?_ | refine AllY.i fun Y=>?_))
     exact jn k hk
   ·have hg:¬ k < b:=by have:=of_decide_eq_false g;omega
    rw [if_neg (fun e=>by rw [Bool.and_eq_true] at e;have:=of_decide_eq_true e.1;omega)] at hk
    (repeat refine WF ?_)
    (repeat refine WF ?_);refine AWP.region_run (by kernel_rfl) (by kernel_rfl) ?_;(repeat (first | refine RK ?_ | refine RGo.nil (by kernel_rfl) ?_))
    (repeat refine WF ?_)
    refine AWP.cond_f rfl (by simp [g]) ?_
    (repeat (first | refine WK ?_ | refine All.i fun X=>?_ | refine AllY.i fun Y=>?_))
    exact jn k hk
  rintro k hk0
  rw [hk0]
  clear hk0 k
  (repeat (first | refine WK ?_ | refine All.i fun X=>?_ | refine AllY.i fun Y=>?_))
  refine AWP.cond rfl (fun hd=>?_) (fun hd=>?_)
  ·have hd:i2 = b:=by have:=of_decide_eq_true hd;omega
   rw [if_pos hd] at hfold
   subst hfold
   (repeat (first | refine WK ?_ | refine All.i fun X=>?_ | refine AllY.i fun Y=>?_))
   (refine AWP.ret ?_;(repeat (first | refine inB_r ?_ | refine andThen_r ?_));refine retQ_r ?_)
   exact Ends.sp [bA true] [(X,_)] ⟨rfl,rfl⟩
  have hd:¬ i2 = b:=by have:=of_decide_eq_false hd;omega
  rw [if_neg hd] at hfold
  (repeat (first | (refine AOps.gN ?_;first | refine AOps.p (W.subE (((b - a:Nat):Int)) (by omega) (by omega) rfl rfl) rfl ?_) | refine WK ?_ | refine All.i fun X=>?_ | refine AllY.i fun Y=>?_))
  refine AWP.cond rfl (fun he=>?_) (fun he=>?_)
  ·have he:b - a < 50:=by have:=of_decide_eq_true he;omega
   rw [if_pos he] at hfold
   subst hfold
   (repeat (first | refine WK ?_ | refine All.i fun X=>?_ | refine AllY.i fun Y=>?_))
   (refine AWP.ret ?_;(repeat (first | refine inB_r ?_ | refine andThen_r ?_));refine retQ_r ?_)
   exact Ends.sp [bA false] [(X,_)] ⟨rfl,rfl⟩
  have he:¬ b - a < 50:=by have:=of_decide_eq_false he;omega
  rw [if_neg he] at hfold
  have h1:=arr_at entA (d:=u) (i:=i2) (by omega)
  have h2:=arr_at entA (d:=u) (i:=i2 - 1) (by omega)
  have hrow:=arr_swp entA (d:=u) (i:=i2) (j:=i2 - 1) (by omega) (by omega)
  obtain ⟨y,hy⟩:=arr_set2 entA (d:=u) (i:=i2) (j:=i2 - 1) (by omega) u[i2 - 1]!
  have hvs:(swp u i2 (i2 - 1)).size = d.size:=by rw [size_swp];exact hu
  (repeat refine WF ?_)
  (repeat refine WF ?_);refine AWP.region_run (by kernel_rfl) (by kernel_rfl) ?_;(repeat (first | (refine RGo.gN ?_;first | refine RGo.go (h:=W.subE (((i2 - 1:Nat):Int)) (by omega) (by omega) rfl rfl) (k:=?_) | refine RGo.s (W.store rfl rfl (by exact At.f) hy (by exact rfl)) rfl ?_) | (refine RGo.gQ ?_;first | refine RGo.go (h:=W.subE (((i2 - 1:Nat):Int)) (by omega) (by omega) rfl rfl) (k:=?_) | refine RGo.s (W.store rfl rfl (by exact At.f) hy (by exact rfl)) rfl ?_) | refine RK ?_ | refine RGo.nil (by kernel_rfl) ?_))
  obtain ⟨v,hv⟩:∃ v,swp u i2 (i2 - 1) = v:=⟨_,rfl⟩
  rw [hv] at hrow hvs hfold
  refine AWP.as [(0,.sl X 0 n),(1,iA a),(2,iA b),(3,.fn f cap),(9,iA i2),(10,iA c)] ((X,.row 52 2 (v.toList.map entA)) :: Sf) ?_ (h:=by rw [← hrow];exact ⟨by exact Lk.f,by exact Sub.f⟩)
  (repeat (first | (refine AOps.gN ?_;first | refine AOps.p (W.subE (((i2 - a:Nat):Int)) (by omega) (by omega) rfl rfl) rfl ?_) | refine WK ?_ | refine All.i fun X=>?_ | refine AllY.i fun Y=>?_))
  refine AWP.joinS (fun w:Array Ent=>w.size = d.size ∧ w = fixDown (ltOf cf) a i2 v) (fun w=>⟨[(0,.sl X 0 n),(1,iA a),(2,iA b),(3,.fn f cap),(9,iA i2),(10,iA c)],(X,.row 52 2 (w.toList.map entA)) :: Sf⟩) ?_ ?_
  ·unfold fixDown
   refine AWP.cond rfl (fun hf=>?_) (fun hf=>?_)
   ·have hf:i2 - a ≥ 2:=by have:=of_decide_eq_true hf;omega
    rw [if_pos hf]
    (repeat (first | (refine AOps.gN ?_;first | refine AOps.p (W.subE (((i2 - 1:Nat):Int)) (by omega) (by omega) rfl rfl) rfl ?_) | refine WK ?_ | refine All.i fun X=>?_ | refine AllY.i fun Y=>?_))
    refine AWP.lp2 (fun (k:Nat) (w:Array Ent)=>⟨[(0,.sl X 0 n),(1,iA a),(2,iA b),(3,.fn f cap),(9,iA i2),(10,iA c),(11,iA k)],(X,.row 52 2 (w.toList.map entA)) :: Sf⟩) (fun k w=>k < b ∧ w.size = d.size ∧ shiftDown (ltOf cf) k w = shiftDown (ltOf cf) (i2 - 1) v) (fun k _=>k) (i2 - 1) v ⟨by omega,hvs,rfl⟩ ?_
    rintro k w ⟨hkb,hw,hk⟩
    (repeat (first | refine WK ?_ | refine All.i fun X=>?_ | refine AllY.i fun Y=>?_))
    refine AWP.cond rfl (fun hg=>?_) (fun hg=>?_)
    ·obtain ⟨q,rfl⟩:∃ q,k = q + 1:=⟨k - 1,by have:=of_decide_eq_true hg;omega⟩
     rw [shiftDown] at hk
     have h1:=arr_at entA (d:=w) (i:=q + 1) (by omega)
     have h2:=arr_at entA (d:=w) (i:=q) (by omega)
     have hl:=hcf (w[q + 1]!) (w[q]!)
     (repeat refine WF ?_)
     (repeat refine WF ?_);refine AWP.region_run (by kernel_rfl) (by kernel_rfl) ?_;(repeat (first | (refine RGo.gN ?_;first | (refine RGo.g_callv ?_;first | refine RGo.k2 (h:=(hl ..)) (k:=?_)) | refine RGo.go (h:=W.subE ((q:Int)) (by omega) (by omega) rfl rfl) (k:=?_)) | (refine RGo.gQ ?_;first | (refine RGo.g_callv ?_;first | refine RGo.k2 (h:=(hl ..)) (k:=?_)) | refine RGo.go (h:=W.subE ((q:Int)) (by omega) (by omega) rfl rfl) (k:=?_)) | refine RK ?_ | refine RGo.nil (by kernel_rfl) ?_))
     (repeat refine WF ?_)
     refine AWP.cond rfl (fun hd=>?_) (fun hd=>?_)
     ·have hd:(!(ltOf cf) w[q + 1]! w[q]!) = true:=by simpa [ltOf] using hd
      rw [if_pos hd] at hk
      (repeat (first | refine WK ?_ | refine All.i fun X=>?_ | refine AllY.i fun Y=>?_))
      exact jn w ⟨hw,hk⟩
     ·have hd:(!(ltOf cf) w[q + 1]! w[q]!) = false:=by simpa [ltOf] using hd
      rw [if_neg (by rw [hd];simp)] at hk
      clear y hy
      obtain ⟨y,hy⟩:=arr_set2 entA (d:=w) (i:=q + 1) (j:=q) (by omega) w[q]!
      (repeat refine WF ?_)
      (repeat refine WF ?_);refine AWP.region_run (by kernel_rfl) (by kernel_rfl) ?_;(repeat (first | (refine RGo.gN ?_;first | refine RGo.go (h:=W.subE ((q:Int)) (by omega) (by omega) rfl rfl) (k:=?_) | refine RGo.s (W.store rfl rfl (by exact At.f) hy (by exact rfl)) rfl ?_) | (refine RGo.gQ ?_;first | refine RGo.go (h:=W.subE ((q:Int)) (by omega) (by omega) rfl rfl) (k:=?_) | refine RGo.s (W.store rfl rfl (by exact At.f) hy (by exact rfl)) rfl ?_) | refine RK ?_ | refine RGo.nil (by kernel_rfl) ?_))
      (repeat (first | (refine AOps.gN ?_;first | refine AOps.p (W.subE ((q:Int)) (by omega) (by omega) rfl rfl) rfl ?_) | refine WK ?_ | refine All.i fun X=>?_ | refine AllY.i fun Y=>?_))
      refine lp_next2 q (swp w (q + 1) q) ⟨by omega,by rw [size_swp];exact hw,hk⟩ (h0:=by rw [← arr_swp entA (by omega) (by omega)];exact ⟨by exact Lk.f,by exact Sub.f⟩)
    ·obtain rfl:k = 0:=by have:=of_decide_eq_false hg;omega
     rw [shiftDown] at hk
     (repeat (first | refine WK ?_ | refine All.i fun X=>?_ | refine AllY.i fun Y=>?_))
     exact jn w ⟨hw,hk⟩
   ·have hf:¬ i2 - a ≥ 2:=by have:=of_decide_eq_false hf;omega
    rw [if_neg hf]
    (repeat (first | refine WK ?_ | refine All.i fun X=>?_ | refine AllY.i fun Y=>?_))
    exact jn v ⟨hvs,rfl⟩
  rintro w ⟨hws,hw0⟩
  rw [← hw0] at hfold
  clear hw0 hrow y hy h1 h2
  (repeat (first | (refine AOps.gN ?_;first | refine AOps.p (W.subE (((b - i2:Nat):Int)) (by omega) (by omega) rfl rfl) rfl ?_) | refine WK ?_ | refine All.i fun X=>?_ | refine AllY.i fun Y=>?_))
  refine AWP.joinB (fun z:Array Ent=>z.size = d.size ∧ z = fixUp (ltOf cf) b i2 w) (fun z=>⟨[(0,.sl X 0 n),(1,iA a),(2,iA b),(3,.fn f cap),(9,iA i2),(10,iA c)],(X,.row 52 2 (z.toList.map entA)) :: Sf⟩) ?_ ?_
  ·unfold fixUp
   refine AWP.cond rfl (fun hf=>?_) (fun hf=>?_)
   ·have hf:b - i2 ≥ 2:=by have:=of_decide_eq_true hf;omega
    rw [if_pos hf]
    (repeat (first | (refine AOps.gN ?_;first | refine AOps.p (W.addE (((i2 + 1:Nat):Int)) (by omega) (by omega) rfl rfl) rfl ?_) | refine WK ?_ | refine All.i fun X=>?_ | refine AllY.i fun Y=>?_))
    refine AWP.lp2 (fun (k:Nat) (z:Array Ent)=>⟨[(0,.sl X 0 n),(1,iA a),(2,iA b),(3,.fn f cap),(9,iA i2),(10,iA c),(12,iA k)],(X,.row 52 2 (z.toList.map entA)) :: Sf⟩) (fun k z=>i2 < k ∧ k ≤ b ∧ z.size = d.size ∧ shiftUp (ltOf cf) b k z = shiftUp (ltOf cf) b (i2 + 1) w) (fun k _=>b - k) (i2 + 1) w ⟨by omega,by omega,hws,rfl⟩ ?_
    rintro k z ⟨hik,hkb,hz1,hk⟩
    rw [shiftUp] at hk
    (repeat (first | refine WK ?_ | refine All.i fun X=>?_ | refine AllY.i fun Y=>?_))
    refine AWP.cond rfl (fun hg=>?_) (fun hg=>?_)
    ·have hg:k < b:=by have:=of_decide_eq_true hg;omega
     rw [if_pos hg] at hk
     have h1:=arr_at entA (d:=z) (i:=k) (by omega)
     have h2:=arr_at entA (d:=z) (i:=k - 1) (by omega)
     have hl:=hcf (z[k]!) (z[k - 1]!)
     (repeat refine WF ?_)
     (repeat refine WF ?_);refine AWP.region_run (by kernel_rfl) (by kernel_rfl) ?_;(repeat (first | (refine RGo.gN ?_;first | (refine RGo.g_callv ?_;first | refine RGo.k2 (h:=(hl ..)) (k:=?_)) | refine RGo.go (h:=W.subE (((k - 1:Nat):Int)) (by omega) (by omega) rfl rfl) (k:=?_)) | (refine RGo.gQ ?_;first | (refine RGo.g_callv ?_;first | refine RGo.k2 (h:=(hl ..)) (k:=?_)) | refine RGo.go (h:=W.subE (((k - 1:Nat):Int)) (by omega) (by omega) rfl rfl) (k:=?_)) | refine RK ?_ | refine RGo.nil (by kernel_rfl) ?_))
     (repeat refine WF ?_)
     refine AWP.cond rfl (fun hd=>?_) (fun hd=>?_)
     ·have hd:(!(ltOf cf) z[k]! z[k - 1]!) = true:=by simpa [ltOf] using hd
      rw [if_pos hd] at hk
      (repeat (first | refine WK ?_ | refine All.i fun X=>?_ | refine AllY.i fun Y=>?_))
      exact jn z ⟨hz1,hk⟩
     ·have hd:(!(ltOf cf) z[k]! z[k - 1]!) = false:=by simpa [ltOf] using hd
      rw [if_neg (by rw [hd];simp)] at hk
      obtain ⟨y,hy⟩:=arr_set2 entA (d:=z) (i:=k) (j:=k - 1) (by omega) z[k - 1]!
      (repeat refine WF ?_)
      (repeat refine WF ?_);refine AWP.region_run (by kernel_rfl) (by kernel_rfl) ?_;(repeat (first | (refine RGo.gN ?_;first | refine RGo.go (h:=W.subE (((k - 1:Nat):Int)) (by omega) (by omega) rfl rfl) (k:=?_) | refine RGo.s (W.store rfl rfl (by exact At.f) hy (by exact rfl)) rfl ?_) | (refine RGo.gQ ?_;first | refine RGo.go (h:=W.subE (((k - 1:Nat):Int)) (by omega) (by omega) rfl rfl) (k:=?_) | refine RGo.s (W.store rfl rfl (by exact At.f) hy (by exact rfl)) rfl ?_) | refine RK ?_ | refine RGo.nil (by kernel_rfl) ?_))
      (repeat (first | refine WK ?_ | refine All.i fun X=>?_ | refine AllY.i fun Y=>?_))
      refine lp_next2 (k + 1) (swp z k (k - 1)) ⟨by omega,by omega,by rw [size_swp];exact hz1,hk⟩ (h0:=by rw [← arr_swp entA (by omega) (by omega)];exact ⟨by exact Lk.f,by exact Sub.f⟩)
    ·have hg:¬ k < b:=by have:=of_decide_eq_false hg;omega
     rw [if_neg hg] at hk
     (repeat (first | refine WK ?_ | refine All.i fun X=>?_ | refine AllY.i fun Y=>?_))
     exact jn z ⟨hz1,hk⟩
   ·have hf:¬ b - i2 ≥ 2:=by have:=of_decide_eq_false hf;omega
    rw [if_neg hf]
    (repeat (first | refine WK ?_ | refine All.i fun X=>?_ | refine AllY.i fun Y=>?_))
    exact jn w ⟨hws,rfl⟩
  rintro z ⟨hzs,hz0⟩
  rw [← hz0] at hfold
  (repeat (first | refine WK ?_ | refine All.i fun X=>?_ | refine AllY.i fun Y=>?_))
  refine lp_next3 (c + 1) i2 z ⟨by omega,by omega,by omega,hzs,by rw [show 5 - (c + 1) = s by omega];exact hfold⟩
 ·have h:c = 5:=by have:=of_decide_eq_false hc;omega
  subst h
  rw [show 5 - 5 = 0 from rfl,partialIns] at hfold
  subst hfold
  (repeat (first | refine WK ?_ | refine All.i fun X=>?_ | refine AllY.i fun Y=>?_))
  (refine AWP.ret ?_;(repeat (first | refine inB_r ?_ | refine andThen_r ?_));refine retQ_r ?_)
  exact Ends.sp [bA false] [(X,_)] ⟨rfl,rfl⟩
end
section
open Go.Sort
set_option maxHeartbeats 1000000 in
theorem brkE_sp {f:FuncId} {cap:List AV} (X n:Nat) (d:Array Ent) (a b:Nat) (hn:n = d.size) (hab:a ≤ b) (hb:b ≤ d.size) (hz:d.size < 65536):Spec Try.prog 116 [.sl X 0 n,iA a,iA b,.fn f cap] [(X,.row 52 2 (d.toList.map entA))] fun r S'=>∃ u:Array Ent,PermIn a b d u ∧ r = .tup [] ∧ S' = [(X,.row 52 2 (u.toList.map entA))]:=by
 obtain ⟨l,hl⟩:∃ l,b - a = l:=⟨_,rfl⟩
 refine Spec.of (nt:=67) (res:=[]) Try.func116 rfl (by kernel_rfl) rfl rfl rfl fun Sf=>?_
 (repeat (first | (refine AOps.gN ?_;first | refine AOps.p (W.subE ((l:Int)) (by omega) (by omega) rfl rfl) rfl ?_) | refine WK ?_ | refine All.i fun X=>?_ | refine AllY.i fun Y=>?_))
 refine AWP.cond rfl (fun h8=>?_) (fun h8=>?_)
 ·have h8:8 ≤ l:=by have:=of_decide_eq_true h8;omega
  have hnp:=nextPow_ps l (by omega)
  have hbl:bitsLen l ≤ 16:=(bitsLen_le_iff l 16).2 (by omega)
  have hm2:=two_pow_bitsLen_le (n:=l) (by omega)
  obtain ⟨m,hm⟩:∃ m,(1:UInt64) <<< UInt64.ofNat (bitsLen l) = m:=⟨_,rfl⟩
  have hmn:m.toNat = 2 ^ bitsLen l:=by
   have:2 ^ bitsLen l ≤ 2 ^ 16:=Nat.pow_le_pow_right (by decide) hbl
   rw [← hm,UInt64.toNat_shiftLeft,UInt64.toNat_ofNat',show bitsLen l % 2 ^ 64 % 64 = bitsLen l by omega,Nat.shiftLeft_eq,show (1:UInt64).toNat = 1 from rfl]
   omega
  rw [hm] at hnp
  have hp1:1 ≤ 2 ^ bitsLen l:=Nat.one_le_two_pow
  (repeat (first | (refine AOps.gN ?_;first | (refine AOps.g_callf ?_;first | refine AOps.c1 (h:=(hnp ..)) (k:=?_)) | refine AOps.p (W.toUN .i64 l rfl (by omega) (by kernel_rfl) (by kernel_rfl) rfl) rfl ?_ | refine AOps.p (W.quoN l 4 (l / 4) rfl rfl (by omega) rfl (by omega) rfl rfl) rfl ?_ | refine AOps.p (W.mulE ((l / 4 * 2:Nat):Int) (by omega) (by omega) rfl rfl) rfl ?_ | refine AOps.p (W.addE (((a + l / 4 * 2:Nat):Int)) (by omega) (by omega) rfl rfl) rfl ?_ | refine AOps.p (W.subE (((a + l / 4 * 2 - 1:Nat):Int)) (by omega) (by omega) rfl rfl) rfl ?_) | refine WK ?_ | refine All.i fun V=>?_ | refine AllY.i fun Y=>?_))
  refine AWP.lp3 (fun (k:Nat) (s:UInt64) (u:Array Ent)=>⟨[(0,.sl X 0 n),(1,iA a),(3,.fn f cap),(8,iA l),(9,.ptr V 0 0),(10,uA m),(11,iA k)],(V,.row 192 1 [uA s]) :: (X,.row 52 2 (u.toList.map entA)) :: Sf⟩) (fun k s u=>a ≤ k ∧ k ≤ a + l / 4 * 2 + 2 ∧ PermIn a b d u) (fun k _ _=>a + l / 4 * 2 + 2 - k) (a + l / 4 * 2 - 1) (UInt64.ofNat l) d ⟨by omega,by omega,permIn_refl _ _ _⟩ ?_
  rintro k s u ⟨hak,hkl,hP⟩
  have hu:u.size = d.size:=hP.1
  (repeat (first | (refine AOps.gN ?_;first | refine AOps.p (W.quoN l 4 (l / 4) rfl rfl (by omega) rfl (by omega) rfl rfl) rfl ?_ | refine AOps.p (W.mulE ((l / 4 * 2:Nat):Int) (by omega) (by omega) rfl rfl) rfl ?_ | refine AOps.p (W.addE (((a + l / 4 * 2:Nat):Int)) (by omega) (by omega) rfl rfl) rfl ?_ | refine AOps.p (W.addE (((a + l / 4 * 2 + 1:Nat):Int)) (by omega) (by omega) rfl rfl) rfl ?_) | refine WK ?_ | refine All.i fun X=>?_ | refine AllY.i fun Y=>?_))
  refine AWP.cond rfl (fun hc=>?_) (fun hc=>?_)
  ·have hk1:k ≤ a + l / 4 * 2 + 1:=by have:=of_decide_eq_true hc;omega
   have hkb:k < b:=by omega
   refine AWP.skip ?_
   refine andThen_n ?_
   refine AWP.seq ?_
   refine AWP.block ?_
   refine AWP.seq ?_
   (repeat refine WF ?_);refine AWP.region ?_;(repeat (first | (refine AOps.gN ?_;first | (refine AOps.g_callf ?_;first | refine AOps.eo1 (h:=xorNext_sp V s) (k:=fun v _=>?_))) | refine WO ?_ | refine All.i fun X=>?_ | refine AllY.i fun Y=>?_))
   have hvb:(v &&& (m - 1)).toNat < 2 * l:=by
    rw [UInt64.toNat_and,UInt64.toNat_sub_of_le _ _ (by rw [UInt64.le_iff_toNat_le,hmn];exact hp1),hmn]
    have:=Nat.and_le_right (n:=v.toNat) (m:=2 ^ bitsLen l - (1:UInt64).toNat)
    have e:(1:UInt64).toNat = 1:=rfl
    omega
   (repeat (first | (refine AOps.gN ?_;first | refine AOps.p (W.subU (b:=1) rfl rfl) rfl ?_ | refine AOps.p (W.andU rfl rfl) rfl ?_ | refine AOps.p (W.ofUN .u64 (by omega) (by kernel_rfl) (by kernel_rfl) rfl) rfl ?_) | refine WO ?_ | refine All.i fun X=>?_ | refine AllY.i fun Y=>?_))
   refine AOps.nil ?_
   (repeat (first | refine AWP.skip ?_ | refine andThen_n ?_ | refine AWP.seq ?_))
   obtain ⟨o,ho⟩:∃ o,(v &&& (m - 1)).toNat = o:=⟨_,rfl⟩
   refine AWP.as [(0,.sl X 0 n),(1,iA a),(3,.fn f cap),(8,iA l),(9,.ptr V 0 0),(10,uA m),(11,iA k),(12,iA o)] ((V,.row 192 1 [uA v]) :: (X,.row 52 2 (u.toList.map entA)) :: Sf) ?_ (h:=by rw [← ho];exact ⟨by exact Lk.f,by exact Sub.f⟩)
   rw [ho] at hvb
   (repeat (first | refine WK ?_ | refine All.i fun X=>?_ | refine AllY.i fun Y=>?_))
   refine AWP.joinS (fun o:Nat=>o < l) (fun o=>⟨[(0,.sl X 0 n),(1,iA a),(3,.fn f cap),(8,iA l),(9,.ptr V 0 0),(10,uA m),(11,iA k),(12,iA o)],(V,.row 192 1 [uA v]) :: (X,.row 52 2 (u.toList.map entA)) :: Sf⟩) ?_ ?_
   ·refine AWP.cond rfl (fun hd=>?_) (fun hd=>?_)
    ·have hd:l ≤ o:=by have:=of_decide_eq_true hd;omega
     (repeat (first | (refine AOps.gN ?_;first | refine AOps.p (W.subE (((o - l:Nat):Int)) (by omega) (by omega) rfl rfl) rfl ?_) | refine WK ?_ | refine All.i fun X=>?_ | refine AllY.i fun Y=>?_))
     exact jn (o - l) (by omega)
    ·have hd:¬ l ≤ o:=by have:=of_decide_eq_false hd;omega
     (repeat (first | refine WK ?_ | refine All.i fun X=>?_ | refine AllY.i fun Y=>?_))
     exact jn o (by omega)
   rintro o hol
   have h1:=arr_at entA (d:=u) (i:=k) (by omega)
   have h2:=arr_at entA (d:=u) (i:=a + o) (by omega)
   obtain ⟨y,hy⟩:=arr_set2 entA (d:=u) (i:=k) (j:=a + o) (by omega) u[a + o]!
   (repeat refine WF ?_)
   (repeat refine WF ?_);refine AWP.region_run (by kernel_rfl) (by kernel_rfl) ?_;(repeat (first | (refine RGo.gN ?_;first | refine RGo.go (h:=W.addE (((a + o:Nat):Int)) (by omega) (by omega) rfl rfl) (k:=?_) | refine RGo.s (W.store rfl rfl (by exact At.f) hy (by exact rfl)) rfl ?_) | (refine RGo.gQ ?_;first | refine RGo.go (h:=W.addE (((a + o:Nat):Int)) (by omega) (by omega) rfl rfl) (k:=?_) | refine RGo.s (W.store rfl rfl (by exact At.f) hy (by exact rfl)) rfl ?_) | refine RK ?_ | refine RGo.nil (by kernel_rfl) ?_))
   (repeat (first | refine WK ?_ | refine All.i fun X=>?_ | refine AllY.i fun Y=>?_))
   refine lp_next3 (k + 1) v (swp u k (a + o)) ⟨by omega,by omega,permIn_trans _ _ _ _ _ hP (swp_permIn _ _ _ _ _ (by omega) (by omega) (by omega) (by omega) (by omega))⟩ (h0:=by rw [← arr_swp entA (by omega) (by omega)];exact ⟨by exact Lk.f,by exact Sub.f⟩)
  ·(repeat (first | refine WK ?_ | refine All.i fun X=>?_ | refine AllY.i fun Y=>?_))
   refine retQ_n ?_
   exact Ends.void [(X,.row 52 2 (u.toList.map entA))] ⟨u,hP,rfl,rfl⟩
 ·(repeat (first | refine WK ?_ | refine All.i fun X=>?_ | refine AllY.i fun Y=>?_))
  refine retQ_n ?_
  exact Ends.void [(X,.row 52 2 (d.toList.map entA))] ⟨d,permIn_refl _ _ _,rfl,rfl⟩
end
section
open Go.Sort
set_option maxHeartbeats 1000000 in
theorem order2E_sp (f:FuncId) (cap:List AV) (cf:Ent → Ent → Int) (hst:st1s cap = true) (hcf:∀ x y,PS Try.prog f (entA x :: entA y :: cap) (iA (cf x y))) (X Y n:Nat) (d:Array Ent) (a b s:Nat) (hn:n = d.size) (ha:a < d.size) (hb:b < d.size) (hs:s ≤ 1099511627776):Spec Try.prog 148 [.sl X 0 n,iA a,iA b,.ptr Y 0 0,.fn f cap] [(X,.row 52 2 (d.toList.map entA)),(Y,.row 3 1 [iA s])] fun r S'=>r = .tup [iA (order2 (ltOf cf) d a b s).1,iA (order2 (ltOf cf) d a b s).2.1] ∧ S' = [(X,.row 52 2 (d.toList.map entA)),(Y,.row 3 1 [iA (order2 (ltOf cf) d a b s).2.2])]:=by
 subst hn
 have h1:=arr_at entA ha
 have h2:=arr_at entA hb
 have hl:=hcf (d[b]!) (d[a]!)
 refine Spec.of (nt:=32) (res:=[.tmp 10,.tmp 11]) Try.func148 rfl (by kernel_rfl) rfl rfl rfl fun Sf=>?_
 unfold order2
 (repeat refine WF ?_);refine AWP.region ?_;(repeat (first | refine WO ?_ | refine All.i fun X=>?_ | refine AllY.i fun Y=>?_));refine AOps.nil ?_;(repeat refine WN ?_)
 (repeat refine WF ?_);refine AWP.region_run (by kernel_rfl) (by kernel_rfl) ?_;(repeat (first | (refine RGo.gN ?_;first | (refine RGo.g_callv ?_;first | refine RGo.k2 (h:=(hl ..)) (k:=?_))) | (refine RGo.gQ ?_;first | (refine RGo.g_callv ?_;first | refine RGo.k2 (h:=(hl ..)) (k:=?_))) | refine RK ?_ | refine RGo.nil (by kernel_rfl) ?_))
 (repeat refine WF ?_)
 refine AWP.cond rfl (fun hc=>?_) (fun hc=>?_)
 ·have hc:(ltOf cf) d[b]! d[a]! = true:=by simpa [ltOf] using hc
  rw [if_pos hc]
  (repeat (first | refine WK ?_ | refine All.i fun X=>?_ | refine AllY.i fun Y=>?_))
  (refine AWP.ret ?_;(repeat (first | refine inB_r ?_ | refine andThen_r ?_));refine retQ_r ?_)
  exact Ends.sp [iA b,iA a] [(X,_),(Y,_)] ⟨rfl,rfl⟩
 ·have hc:(ltOf cf) d[b]! d[a]! = false:=by simpa [ltOf] using hc
  rw [if_neg (by simp [hc])]
  (repeat (first | refine WK ?_ | refine All.i fun X=>?_ | refine AllY.i fun Y=>?_))
  (refine AWP.ret ?_;(repeat (first | refine inB_r ?_ | refine andThen_r ?_));refine retQ_r ?_)
  exact Ends.sp [iA a,iA b] [(X,_),(Y,_)] ⟨rfl,rfl⟩
set_option maxHeartbeats 1000000 in
theorem medianE_sp (f:FuncId) (cap:List AV) (cf:Ent → Ent → Int) (hst:st1s cap = true) (hcf:∀ x y,PS Try.prog f (entA x :: entA y :: cap) (iA (cf x y))) (X Y n:Nat) (d:Array Ent) (a b c s:Nat) (hn:n = d.size) (ha:a < d.size) (hb:b < d.size) (hc:c < d.size) (hs:s ≤ 1099511627000):Spec Try.prog 141 [.sl X 0 n,iA a,iA b,iA c,.ptr Y 0 0,.fn f cap] [(X,.row 52 2 (d.toList.map entA)),(Y,.row 3 1 [iA s])] fun r S'=>r = iA (median (ltOf cf) d a b c s).1 ∧ S' = [(X,.row 52 2 (d.toList.map entA)),(Y,.row 3 1 [iA (median (ltOf cf) d a b c s).2])]:=by
 obtain ⟨m,hm⟩:∃ m,median (ltOf cf) d a b c s = m:=⟨_,rfl⟩
 rw [hm]
 unfold median at hm
 have l1:=order2_lt (ltOf cf) d a b s _ ha hb
 have e1:=order2_le (ltOf cf) d a b s
 have h1:=order2E_sp f cap cf hst hcf X Y n d a b s hn ha hb (by omega)
 obtain ⟨⟨a1,b1,s1⟩,hr1⟩:∃ r,order2 (ltOf cf) d a b s = r:=⟨_,rfl⟩
 rw [hr1] at h1 hm l1 e1
 dsimp only at h1 hm l1 e1
 have l2:=order2_lt (ltOf cf) d b1 c s1 _ l1.2 hc
 have e2:=order2_le (ltOf cf) d b1 c s1
 have h2:=order2E_sp f cap cf hst hcf X Y n d b1 c s1 hn l1.2 hc (by omega)
 obtain ⟨⟨b2,c2,s2⟩,hr2⟩:∃ r,order2 (ltOf cf) d b1 c s1 = r:=⟨_,rfl⟩
 rw [hr2] at h2 hm l2 e2
 dsimp only at h2 hm l2 e2
 have l3:=order2_lt (ltOf cf) d a1 b2 s2 _ l1.1 l2.1
 have h3:=order2E_sp f cap cf hst hcf X Y n d a1 b2 s2 hn l1.1 l2.1 (by omega)
 obtain ⟨⟨a3,b3,s3⟩,hr3⟩:∃ r,order2 (ltOf cf) d a1 b2 s2 = r:=⟨_,rfl⟩
 rw [hr3] at h3 hm l3
 dsimp only at h3 hm l3
 subst hm
 refine Spec.of (nt:=41) (res:=[.tmp 12]) Try.func141 rfl (by kernel_rfl) rfl rfl rfl fun Sf=>?_
 (repeat (first | (refine AOps.gN ?_;first | (refine AOps.g_callf ?_;first | refine AOps.z5 (h:=h1) (hT:=.fz) (k:=?_) | refine AOps.z5 (h:=h2) (hT:=.fz) (k:=?_) | refine AOps.z5 (h:=h3) (hT:=.fz) (k:=?_))) | refine WK ?_ | refine All.i fun X=>?_ | refine AllY.i fun Y=>?_))
 (refine AWP.ret ?_;(repeat (first | refine inB_r ?_ | refine andThen_r ?_));refine retQ_r ?_)
 exact Ends.sp [iA b3] [(X,_),(Y,_)] ⟨rfl,rfl⟩
set_option maxHeartbeats 1000000 in
theorem medAdjE_sp (f:FuncId) (cap:List AV) (cf:Ent → Ent → Int) (hst:st1s cap = true) (hcf:∀ x y,PS Try.prog f (entA x :: entA y :: cap) (iA (cf x y))) (X Y n:Nat) (d:Array Ent) (a s:Nat) (hn:n = d.size) (ha:a + 1 < d.size) (h0:0 < a) (hz:d.size ≤ 1099511627776) (hs:s ≤ 1099511627000):Spec Try.prog 140 [.sl X 0 n,iA a,.ptr Y 0 0,.fn f cap] [(X,.row 52 2 (d.toList.map entA)),(Y,.row 3 1 [iA s])] fun r S'=>r = iA (medianAdjacent (ltOf cf) d a s).1 ∧ S' = [(X,.row 52 2 (d.toList.map entA)),(Y,.row 3 1 [iA (medianAdjacent (ltOf cf) d a s).2])]:=by
 have h1:=medianE_sp f cap cf hst hcf X Y n d (a - 1) a (a + 1) s hn (by omega) (by omega) ha hs
 unfold medianAdjacent
 refine Spec.of (nt:=18) (res:=[.tmp 8]) Try.func140 rfl (by kernel_rfl) rfl rfl rfl fun Sf=>?_
 (repeat (first | (refine AOps.gN ?_;first | (refine AOps.g_callf ?_;first | refine AOps.z6 (h:=h1) (hT:=.fz) (k:=?_)) | refine AOps.p (W.subE ((a - 1:Nat):Int) (by omega) (by omega) rfl rfl) rfl ?_ | refine AOps.p (W.addE ((a + 1:Nat):Int) (by omega) (by omega) rfl rfl) rfl ?_) | refine WK ?_ | refine All.i fun X=>?_ | refine AllY.i fun Y=>?_))
 (refine AWP.ret ?_;(repeat (first | refine inB_r ?_ | refine andThen_r ?_));refine retQ_r ?_)
 exact Ends.sp [iA _] [(X,_),(Y,_)] ⟨rfl,rfl⟩
set_option maxHeartbeats 1000000 in
theorem choosePivotE_po (f:FuncId) (cap:List AV) (cf:Ent → Ent → Int) (hst:st1s cap = true) (hcf:∀ x y,PS Try.prog f (entA x :: entA y :: cap) (iA (cf x y))) (X n:Nat) (d:Array Ent) (a b:Nat) (hn:n = d.size) (hab:a < b) (hb:b ≤ d.size) (hz:d.size ≤ 1099511627776):PO Try.prog 117 [.sl X 0 n,iA a,iA b,.fn f cap] X (.row 52 2 (d.toList.map entA)) (.tup [iA (choosePivot (ltOf cf) d a b).1,iA (hintN (choosePivot (ltOf cf) d a b).2)]) (.row 52 2 (d.toList.map entA)):=by
 obtain ⟨c,hc⟩:∃ c,choosePivot (ltOf cf) d a b = c:=⟨_,rfl⟩
 rw [hc]
 unfold choosePivot at hc
 obtain ⟨l,hl⟩:∃ l,b - a = l:=⟨_,rfl⟩
 obtain ⟨i,hi⟩:∃ i,a + l / 4 * 1 = i:=⟨_,rfl⟩
 obtain ⟨j,hj⟩:∃ i,a + l / 4 * 2 = i:=⟨_,rfl⟩
 obtain ⟨k,hk⟩:∃ i,a + l / 4 * 3 = i:=⟨_,rfl⟩
 rw [hl] at hc
 dsimp only at hc
 rw [hi,hj,hk] at hc
 refine Spec.of (nt:=63) (res:=[.tmp 8,.tmp 9]) Try.func117 rfl (by kernel_rfl) rfl rfl rfl fun Sf=>?_
 have hlb:l ≤ 1099511627776:=by omega
 (repeat (first | (refine AOps.gN ?_;first | refine AOps.p (W.subE (l:Int) (by omega) (by omega) rfl rfl) rfl ?_ | refine AOps.p (W.quoN l 4 (l / 4) rfl rfl (by omega) rfl (by omega) rfl rfl) rfl ?_ | refine AOps.p (W.mulE ((l / 4 * 1:Nat):Int) (by omega) (by omega) rfl rfl) rfl ?_ | refine AOps.p (W.mulE ((l / 4 * 2:Nat):Int) (by omega) (by omega) rfl rfl) rfl ?_ | refine AOps.p (W.mulE ((l / 4 * 3:Nat):Int) (by omega) (by omega) rfl rfl) rfl ?_ | refine AOps.p (W.addE (i:Int) (by omega) (by omega) rfl rfl) rfl ?_ | refine AOps.p (W.addE (j:Int) (by omega) (by omega) rfl rfl) rfl ?_ | refine AOps.p (W.addE (k:Int) (by omega) (by omega) rfl rfl) rfl ?_) | refine WK ?_ | refine All.i fun V=>?_ | refine AllY.i fun Y=>?_))
 refine AWP.joinS (fun b:Nat × Nat=>c = (b.1,if b.2 = 0 then Hint.increasing else if b.2 = 12 then Hint.decreasing else Hint.unknown)) (fun b=>⟨[(0,.sl X 0 n),(3,.fn f cap),(11,.ptr V 0 0),(13,iA b.1)],(V,.row 3 1 [iA b.2]) :: (X,.row 52 2 (d.toList.map entA)) :: Sf⟩) ?_ ?_
 ·refine AWP.cond rfl (fun h8=>?_) (fun h8=>?_)
  ·have h8:l ≥ 8:=by have:=of_decide_eq_true h8;omega
   rw [if_pos h8] at hc
   (repeat (first | refine WK ?_ | refine All.i fun X=>?_ | refine AllY.i fun Y=>?_))
   refine AWP.joinS (fun b:Nat × Nat × Nat × Nat=>b.1 < d.size ∧ b.2.1 < d.size ∧ b.2.2.1 < d.size ∧ b.2.2.2 ≤ 100 ∧ (if l ≥ 50 then median (ltOf cf) d (medianAdjacent (ltOf cf) d i 0).1 (medianAdjacent (ltOf cf) d j (medianAdjacent (ltOf cf) d i 0).2).1 (medianAdjacent (ltOf cf) d k (medianAdjacent (ltOf cf) d j (medianAdjacent (ltOf cf) d i 0).2).2).1 (medianAdjacent (ltOf cf) d k (medianAdjacent (ltOf cf) d j (medianAdjacent (ltOf cf) d i 0).2).2).2 else median (ltOf cf) d i j k 0) = median (ltOf cf) d b.1 b.2.1 b.2.2.1 b.2.2.2) (fun b=>⟨[(0,.sl X 0 n),(3,.fn f cap),(11,.ptr V 0 0),(12,iA b.1),(13,iA b.2.1),(14,iA b.2.2.1)],(V,.row 3 1 [iA b.2.2.2]) :: (X,.row 52 2 (d.toList.map entA)) :: Sf⟩) ?_ ?_
   ·refine AWP.cond rfl (fun h50=>?_) (fun h50=>?_)
    ·have h50:l ≥ 50:=by have:=of_decide_eq_true h50;omega
     have a1:=medAdj_lt (ltOf cf) d i 0 _ (show i + 1 < d.size by omega)
     have b1:=median_le (ltOf cf) d (i - 1) i (i + 1) 0
     have s1:=medAdjE_sp f cap cf hst hcf X V n d i 0 hn (by omega) (by omega) hz (by omega)
     rw [if_pos h50]
     have e1:(median (ltOf cf) d (i - 1) i (i + 1) 0).2 = (medianAdjacent (ltOf cf) d i 0).2:=rfl
     rw [e1] at b1
     obtain ⟨⟨p1,q1⟩,r1⟩:∃ r,medianAdjacent (ltOf cf) d i 0 = r:=⟨_,rfl⟩
     rw [r1] at a1 b1 s1 ⊢
     dsimp only at a1 b1 s1 ⊢
     have a2:=medAdj_lt (ltOf cf) d j q1 _ (show j + 1 < d.size by omega)
     have b2:=median_le (ltOf cf) d (j - 1) j (j + 1) q1
     have s2:=medAdjE_sp f cap cf hst hcf X V n d j q1 hn (by omega) (by omega) hz (by omega)
     have e2:(median (ltOf cf) d (j - 1) j (j + 1) q1).2 = (medianAdjacent (ltOf cf) d j q1).2:=rfl
     rw [e2] at b2
     obtain ⟨⟨p2,q2⟩,r2⟩:∃ r,medianAdjacent (ltOf cf) d j q1 = r:=⟨_,rfl⟩
     rw [r2] at a2 b2 s2 ⊢
     dsimp only at a2 b2 s2 ⊢
     have a3:=medAdj_lt (ltOf cf) d k q2 _ (show k + 1 < d.size by omega)
     have b3:=median_le (ltOf cf) d (k - 1) k (k + 1) q2
     have s3:=medAdjE_sp f cap cf hst hcf X V n d k q2 hn (by omega) (by omega) hz (by omega)
     have e3:(median (ltOf cf) d (k - 1) k (k + 1) q2).2 = (medianAdjacent (ltOf cf) d k q2).2:=rfl
     rw [e3] at b3
     obtain ⟨⟨p3,q3⟩,r3⟩:∃ r,medianAdjacent (ltOf cf) d k q2 = r:=⟨_,rfl⟩
     rw [r3] at a3 b3 s3 ⊢
     dsimp only at a3 b3 s3 ⊢
     (repeat (first | (refine AOps.gN ?_;first | (refine AOps.g_callf ?_;first | refine AOps.z4 (h:=s1) (hT:=.fz) (k:=?_) | refine AOps.z4 (h:=s2) (hT:=.fz) (k:=?_) | refine AOps.z4 (h:=s3) (hT:=.fz) (k:=?_))) | refine WK ?_ | refine All.i fun X=>?_ | refine AllY.i fun Y=>?_))
     refine jn (p1,p2,p3,q3) ⟨a1,a2,a3,by dsimp only;omega,rfl⟩
    ·have h50:¬ l ≥ 50:=by have:=of_decide_eq_false h50;omega
     rw [if_neg h50]
     (repeat (first | refine WK ?_ | refine All.i fun X=>?_ | refine AllY.i fun Y=>?_))
     refine jn (i,j,k,0) ⟨by dsimp only;omega,by dsimp only;omega,by dsimp only;omega,by dsimp only;omega,rfl⟩
   ·rintro ⟨p1,p2,p3,q⟩ ⟨l1,l2,l3,lq,e⟩
    dsimp only at l1 l2 l3 lq e ⊢
    rw [e] at hc
    have h1:=medianE_sp f cap cf hst hcf X V n d p1 p2 p3 q hn l1 l2 l3 (by omega)
    obtain ⟨⟨r1,r2⟩,hr⟩:∃ r,median (ltOf cf) d p1 p2 p3 q = r:=⟨_,rfl⟩
    rw [hr] at hc h1
    dsimp only at h1
    (repeat (first | (refine AOps.gN ?_;first | (refine AOps.g_callf ?_;first | refine AOps.z6 (h:=h1) (hT:=.fz) (k:=?_))) | refine WK ?_ | refine All.i fun X=>?_ | refine AllY.i fun Y=>?_))
    refine jn (r1,r2) hc.symm
  ·have h8:¬ l ≥ 8:=by have:=of_decide_eq_false h8;omega
   rw [if_neg h8] at hc
   (repeat (first | refine WK ?_ | refine All.i fun X=>?_ | refine AllY.i fun Y=>?_))
   refine jn (j,0) hc.symm
 ·rintro ⟨p,s⟩ hc
  dsimp only at hc ⊢
  subst hc
  (repeat (first | refine WK ?_ | refine All.i fun X=>?_ | refine AllY.i fun Y=>?_))
  refine AWP.cond rfl (fun h0=>?_) (fun h0=>?_)
  ·have h0:s = 0:=by have:=of_decide_eq_true h0;omega
   rw [if_pos h0]
   (repeat (first | refine WK ?_ | refine All.i fun X=>?_ | refine AllY.i fun Y=>?_))
   (refine AWP.ret ?_;(repeat (first | refine inB_r ?_ | refine andThen_r ?_));refine retQ_r ?_)
   exact Ends.sp [iA p,iA 1] [(X,_)] ⟨rfl,rfl⟩
  ·have h0:¬ s = 0:=by have:=of_decide_eq_false h0;omega
   rw [if_neg h0]
   (repeat (first | refine WK ?_ | refine All.i fun X=>?_ | refine AllY.i fun Y=>?_))
   refine AWP.cond rfl (fun h1=>?_) (fun h1=>?_)
   ·have h1:s = 12:=by have:=of_decide_eq_true h1;omega
    rw [if_pos h1]
    (repeat (first | refine WK ?_ | refine All.i fun X=>?_ | refine AllY.i fun Y=>?_))
    (refine AWP.ret ?_;(repeat (first | refine inB_r ?_ | refine andThen_r ?_));refine retQ_r ?_)
    exact Ends.sp [iA p,iA 2] [(X,_)] ⟨rfl,rfl⟩
   ·have h1:¬ s = 12:=by have:=of_decide_eq_false h1;omega
    rw [if_neg h1]
    (repeat (first | refine WK ?_ | refine All.i fun X=>?_ | refine AllY.i fun Y=>?_))
    (refine AWP.ret ?_;(repeat (first | refine inB_r ?_ | refine andThen_r ?_));refine retQ_r ?_)
    exact Ends.sp [iA p,iA 0] [(X,_)] ⟨rfl,rfl⟩
end
section
open Go.Sort
set_option maxHeartbeats 1000000 in
theorem pdqE_sp (f:FuncId) (cap:List AV) (cf:Ent → Ent → Int) (hst:st1s cap = true) (hcf:∀ x y,PS Try.prog f (entA x :: entA y :: cap) (iA (cf x y))) (hS:SWO (ltOf cf)):∀ (m X n:Nat) (d:Array Ent) (a b limit:Nat),b - a ≤ m → n = d.size → a ≤ b → b ≤ d.size → d.size < 65536 → limit ≤ 1000 → Below (ltOf cf) a b d → Spec Try.prog 90 [.sl X 0 n,iA a,iA b,iA limit,.fn f cap] [(X,.row 52 2 (d.toList.map entA))] fun r S'=>∃ u:Array Ent,(PermIn a b d u ∧ SortedIn (ltOf cf) a b u) ∧ r = .tup [] ∧ S' = [(X,.row 52 2 (u.toList.map entA))]:=by
 intro m
 induction m using Nat.strongRecOn with
 | _ m ih =>
 intro X n d a b limit hm hn hab hb hz hlim hB
 refine Spec.of (nt:=148) (res:=[]) Try.func90 rfl (by kernel_rfl) rfl rfl rfl fun Sf=>?_
 (repeat (first | refine WK ?_ | refine All.i fun X=>?_ | refine AllY.i fun Y=>?_))
 refine AWP.lp6 (fun (a b limit:Nat) (wb wp:Bool) (u:Array Ent)=>⟨[(0,.sl X 0 n),(1,iA a),(2,iA b),(3,iA limit),(4,.fn f cap),(10,bA wb),(11,bA wp)],(X,.row 52 2 (u.toList.map entA)) :: Sf⟩) (fun a' b' limit wb wp u=>a' ≤ b' ∧ b' ≤ d.size ∧ b' - a' ≤ b - a ∧ limit ≤ 1000 ∧ u.size = d.size ∧ Below (ltOf cf) a' b' u ∧ ∀ R,PermIn a' b' u R → SortedIn (ltOf cf) a' b' R → PermIn a b d R ∧ SortedIn (ltOf cf) a b R) (fun a b _ _ _ _=>b - a) a b limit true true d ⟨hab,hb,Nat.le_refl _,hlim,rfl,hB,fun R h1 h2=>⟨h1,h2⟩⟩ ?_
 rintro a' b' limit wb wp u ⟨hab',hb',hmm,hlim,hu,hB',hG⟩
 obtain ⟨l,hl⟩:∃ l,b' - a' = l:=⟨_,rfl⟩
 refine AWP.block ?_
 (repeat (first | (refine AOps.gN ?_;first | refine AOps.p (W.subE ((l:Int)) (by omega) (by omega) rfl rfl) rfl ?_) | refine WK ?_ | refine All.i fun X=>?_ | refine AllY.i fun Y=>?_))
 refine AWP.cond rfl (fun hc=>?_) (fun hc=>?_)
 ·have hs:=insE_po f cap cf hst hcf X n u a' b' (by omega) hab' (by omega) (by omega)
  obtain ⟨p1,p2⟩:=insertionSort_holds (lt:=(ltOf cf)) hS u a' b' hab' (by omega)
  (repeat (first | (refine AOps.gN ?_;first | (refine AOps.g_callf ?_;first | refine AOps.o4 (h:=(hs ..)) (k:=?_))) | refine WK ?_ | refine All.i fun X=>?_ | refine AllY.i fun Y=>?_))
  (refine AWP.ret ?_;(repeat (first | refine inB_r ?_ | refine andThen_r ?_));refine retQ_r ?_)
  exact Ends.void [(X,_)] ⟨_,hG _ p1 p2,rfl,rfl⟩
 have hl12:12 < l:=by have:=of_decide_eq_false hc;omega
 (repeat (first | refine WK ?_ | refine All.i fun X=>?_ | refine AllY.i fun Y=>?_))
 refine AWP.cond rfl (fun hc=>?_) (fun hc=>?_)
 ·have hs:=heapE_po f cap cf hst hcf X n u a' b' (by omega) (by omega) (by omega) (by omega)
  obtain ⟨p1,p2⟩:=heapSort_holds (lt:=(ltOf cf)) hS u a' b' hab' (by omega)
  (repeat (first | (refine AOps.gN ?_;first | (refine AOps.g_callf ?_;first | refine AOps.o4 (h:=(hs ..)) (k:=?_))) | refine WK ?_ | refine All.i fun X=>?_ | refine AllY.i fun Y=>?_))
  (refine AWP.ret ?_;(repeat (first | refine inB_r ?_ | refine andThen_r ?_));refine retQ_r ?_)
  exact Ends.void [(X,_)] ⟨_,hG _ p1 p2,rfl,rfl⟩
 have hl0:0 < limit:=by have:=of_decide_eq_false hc;omega
 (repeat (first | refine WK ?_ | refine All.i fun X=>?_ | refine AllY.i fun Y=>?_))
 refine AWP.joinS (fun b:Nat × Array Ent=>b.1 ≤ 1000 ∧ PermIn a' b' u b.2) (fun b=>⟨[(0,.sl X 0 n),(1,iA a'),(2,iA b'),(3,iA b.1),(4,.fn f cap),(10,bA wb),(11,bA wp),(12,iA l)],(X,.row 52 2 (b.2.toList.map entA)) :: Sf⟩) ?_ ?_
 ·refine AWP.cond rfl (fun hd=>?_) (fun hd=>?_)
  ·have hs:=brkE_sp (f:=f) (cap:=cap) X n u a' b' (by omega) hab' (by omega) (by omega)
   (repeat (first | (refine AOps.gN ?_;first | (refine AOps.g_callf ?_;first | refine AOps.eo4 (h:=hs) (k:=fun v hv=>?_)) | refine AOps.p (W.subE (((limit - 1:Nat):Int)) (by omega) (by omega) rfl rfl) rfl ?_) | refine WK ?_ | refine All.i fun X=>?_ | refine AllY.i fun Y=>?_))
   exact jn (limit - 1,v) ⟨by dsimp only;omega,hv⟩
  ·(repeat (first | refine WK ?_ | refine All.i fun X=>?_ | refine AllY.i fun Y=>?_))
   exact jn (limit,u) ⟨hlim,permIn_refl _ _ _⟩
 rintro ⟨lim1,u1⟩ ⟨hlim1,hP1⟩
 dsimp only at hlim1 hP1 ⊢
 have hu1:u1.size = d.size:=hP1.1.trans hu
 have hpv:=choosePivotE_po f cap cf hst hcf X n u1 a' b' (by omega) (by omega) (by omega) (by omega)
 obtain ⟨c1,c2⟩:=choosePivot_holds (ltOf cf) u1 a' b' (by omega)
 obtain ⟨⟨p,h⟩,hp⟩:∃ c,choosePivot (ltOf cf) u1 a' b' = c:=⟨_,rfl⟩
 rw [hp] at hpv c1 c2
 dsimp only at hpv c1 c2
 obtain ⟨hnum,hhn⟩:∃ hnum,hintN h = hnum:=⟨_,rfl⟩
 rw [hhn] at hpv
 (repeat (first | (refine AOps.gN ?_;first | (refine AOps.g_callf ?_;first | refine AOps.o4 (h:=(hpv ..)) (k:=?_))) | refine WK ?_ | refine All.i fun X=>?_ | refine AllY.i fun Y=>?_))
 refine AWP.joinS (fun b:Nat × Int × Array Ent=>a' ≤ b.1 ∧ b.1 < b' ∧ PermIn a' b' u b.2.2) (fun b=>⟨[(0,.sl X 0 n),(1,iA a'),(2,iA b'),(3,iA lim1),(4,.fn f cap),(10,bA wb),(11,bA wp),(12,iA l),(13,iA b.1),(14,iA b.2.1)],(X,.row 52 2 (b.2.2.toList.map entA)) :: Sf⟩) ?_ ?_
 ·refine AWP.cond rfl (fun hd=>?_) (fun hd=>?_)
  ·have hs:=revE_po (f:=f) (cap:=cap) X n u1 a' b' (by omega) (by omega) (by omega) (by omega)
   have hrp:=reverseRange_holds u1 a' b' hab' (by omega)
   (repeat (first | (refine AOps.gN ?_;first | (refine AOps.g_callf ?_;first | refine AOps.o4 (h:=(hs ..)) (k:=?_)) | refine AOps.p (W.subE (((b' - 1:Nat):Int)) (by omega) (by omega) rfl rfl) rfl ?_ | refine AOps.p (W.subE (((p - a':Nat):Int)) (by omega) (by omega) rfl rfl) rfl ?_ | refine AOps.p (W.subE (((b' - 1 - (p - a'):Nat):Int)) (by omega) (by omega) rfl rfl) rfl ?_) | refine WK ?_ | refine All.i fun X=>?_ | refine AllY.i fun Y=>?_))
   exact jn (b' - 1 - (p - a'),1,_) ⟨by dsimp only;omega,by dsimp only;omega,permIn_trans _ _ _ _ _ hP1 hrp⟩
  ·(repeat (first | refine WK ?_ | refine All.i fun X=>?_ | refine AllY.i fun Y=>?_))
   exact jn (p,hnum,u1) ⟨c1,c2,hP1⟩
 rintro ⟨pv,hn2,u2⟩ ⟨c3,c4,hP2⟩
 dsimp only at c3 c4 hP2 ⊢
 have hu2:u2.size = d.size:=hP2.1.trans hu
 have hB2:=hB'.perm (by omega) hP2
 clear hpv hp hhn c1 c2 p h hnum
 refine AWP.seq ?_
 refine AWP.joinR (fun v:Array Ent=>PermIn a' b' u v) (fun v=>⟨[(0,.sl X 0 n),(1,iA a'),(2,iA b'),(3,iA lim1),(4,.fn f cap),(10,bA wb),(11,bA wp),(12,iA l),(13,iA pv)],(X,.row 52 2 (v.toList.map entA)) :: Sf⟩) ?_ ?_
 ·(repeat (first | refine WK ?_ | refine All.i fun X=>?_ | refine AllY.i fun Y=>?_))
  refine AWP.cond rfl (fun _=>?_) (fun _=>?_)
  ·have hs:=pinsE_po f cap cf hst hcf X n u2 a' b' (by omega) (by omega) (by omega) (by omega)
   have hpi:=partialInsertionSort_holds (lt:=(ltOf cf)) hS u2 a' b' (by omega) (by omega) hB2
   obtain ⟨⟨v,fl⟩,hv⟩:∃ v,partialInsertionSort (ltOf cf) u2 a' b' = v:=⟨_,rfl⟩
   rw [hv] at hs hpi
   dsimp only at hs hpi
   (repeat (first | (refine AOps.gN ?_;first | (refine AOps.g_callf ?_;first | refine AOps.o4 (h:=(hs ..)) (k:=?_))) | refine WK ?_ | refine All.i fun X=>?_ | refine AllY.i fun Y=>?_))
   refine AWP.cond rfl (fun he=>?_) (fun he=>?_)
   ·(refine AWP.ret ?_;(repeat (first | refine inB_r ?_ | refine andThen_r ?_));refine retQ_r ?_)
    exact Ends.void [(X,_)] ⟨v,hG v (permIn_trans _ _ _ _ _ hP2 hpi.1) (hpi.2 he),rfl,rfl⟩
   ·(repeat (first | refine WK ?_ | refine All.i fun X=>?_ | refine AllY.i fun Y=>?_))
    exact jnR v (permIn_trans _ _ _ _ _ hP2 hpi.1)
  ·(repeat (first | refine WK ?_ | refine All.i fun X=>?_ | refine AllY.i fun Y=>?_))
   exact jnR u2 hP2
 rintro u3 hP3
 have hu3:u3.size = d.size:=hP3.1.trans hu
 have hB3:=hB'.perm (by omega) hP3
 have hg3:∀ R,PermIn a' b' u3 R → SortedIn (ltOf cf) a' b' R → PermIn a b d R ∧ SortedIn (ltOf cf) a b R:=fun R h1 h2=>hG R (permIn_trans _ _ _ _ _ hP3 h1) h2
 clear hB2 hP2 hu2 u2 hP1 hu1 u1 hG hB' hn2
 refine AWP.seq ?_
 refine AWP.joinR (fun _:Unit=>True) (fun _=>⟨[(0,.sl X 0 n),(1,iA a'),(2,iA b'),(3,iA lim1),(4,.fn f cap),(10,bA wb),(11,bA wp),(12,iA l),(13,iA pv)],(X,.row 52 2 (u3.toList.map entA)) :: Sf⟩) ?_ ?_
 ·rcases Bool.eq_false_or_eq_true (decide ((0:Int) < (a':Int))) with g | g
  ·have hg:0 < a':=by have:=of_decide_eq_true g;omega
   have h1:=arr_at entA (d:=u3) (i:=a' - 1) (by omega)
   have h2:=arr_at entA (d:=u3) (i:=pv) (by omega)
   have hl2:=hcf (u3[a' - 1]!) (u3[pv]!)
   (repeat refine WF ?_)
   (repeat refine WF ?_);refine AWP.region_run (by kernel_rfl) (by kernel_rfl) ?_;(repeat (first | (refine RGo.gN ?_;first | (refine RGo.g_callv ?_;first | refine RGo.k2 (h:=(hl2 ..)) (k:=?_)) | refine RGo.go (h:=W.subE (((a' - 1:Nat):Int)) (by omega) (by omega) rfl rfl) (k:=?_)) | (refine RGo.gQ ?_;first | (refine RGo.g_callv ?_;first | refine RGo.k2 (h:=(hl2 ..)) (k:=?_)) | refine RGo.go (h:=W.subE (((a' - 1:Nat):Int)) (by omega) (by omega) rfl rfl) (k:=?_)) | refine RK ?_ | refine RGo.nil (by kernel_rfl) ?_))
   (repeat refine WF ?_)
   refine AWP.cond rfl (fun hd=>?_) (fun hd=>?_)
   ·have hd:(!(ltOf cf) u3[a' - 1]! u3[pv]!) = true:=by simpa [g,ltOf] using hd
    have hd:(ltOf cf) u3[a' - 1]! u3[pv]! = false:=by simpa [ltOf] using hd
    have hs:=peqE_po f cap cf hst hcf X n u3 a' b' pv (by omega) c3 c4 (by omega) (by omega)
    obtain ⟨⟨mid,d4⟩,hx⟩:∃ x,partitionEqual (ltOf cf) u3 a' b' pv = x:=⟨_,rfl⟩
    rw [hx] at hs
    dsimp only at hs
    obtain ⟨q1,q2,q3,q4,q5⟩:=round_eq (lt:=(ltOf cf)) hS (partitionEqual_holds (ltOf cf)) hg c3 c4 (by omega) hB3 hd hx
    (repeat (first | (refine AOps.gN ?_;first | (refine AOps.g_callf ?_;first | refine AOps.o5 (h:=(hs ..)) (k:=?_))) | refine WK ?_ | refine All.i fun X=>?_ | refine AllY.i fun Y=>?_))
    refine lp_next6 mid b' lim1 wb wp d4 ⟨q2,hb',by omega,hlim1,q3.trans hu3,q4,fun R k1 k2=>?_⟩
    obtain ⟨k3,k4⟩:=q5 R k1 k2
    exact hg3 R k3 k4
   ·(repeat (first | refine WK ?_ | refine All.i fun X=>?_ | refine AllY.i fun Y=>?_))
    exact jnR () trivial
  ·(repeat refine WF ?_)
   (repeat refine WF ?_);refine AWP.region_run (by kernel_rfl) (by kernel_rfl) ?_;(repeat (first | refine RK ?_ | refine RGo.nil (by kernel_rfl) ?_))
   (repeat refine WF ?_)
   refine AWP.cond_f rfl (by simp [g]) ?_
   (repeat (first | refine WK ?_ | refine All.i fun X=>?_ | refine AllY.i fun Y=>?_))
   exact jnR () trivial
 rintro _ _
 have hs:=partE_po f cap cf hst hcf X n u3 a' b' pv (by omega) c3 c4 (by omega) (by omega)
 obtain ⟨⟨mid,ap,d4⟩,hx⟩:∃ x,partition (ltOf cf) u3 a' b' pv = x:=⟨_,rfl⟩
 rw [hx] at hs
 dsimp only at hs
 obtain ⟨r1,r2,r3,r4,r5,r6,r7⟩:=round_part (lt:=(ltOf cf)) hS (partition_holds (ltOf cf)) c3 c4 (by omega) hB3 hx
 (repeat (first | (refine AOps.gN ?_;first | (refine AOps.g_callf ?_;first | refine AOps.o5 (h:=(hs ..)) (k:=?_)) | refine AOps.p (W.subE (((mid - a':Nat):Int)) (by omega) (by omega) rfl rfl) rfl ?_ | refine AOps.p (W.subE (((b' - mid:Nat):Int)) (by omega) (by omega) rfl rfl) rfl ?_ | refine AOps.p (W.quoN l 8 (l / 8) rfl rfl (by omega) rfl (by omega) rfl rfl) rfl ?_) | refine WK ?_ | refine All.i fun X=>?_ | refine AllY.i fun Y=>?_))
 refine AWP.cond rfl (fun hd=>?_) (fun hd=>?_)
 ·have hrec:=ih (mid - a') (by omega) X n d4 a' mid lim1 (Nat.le_refl _) (by omega) r1 (by omega) (by omega) hlim1 r4
  (repeat (first | (refine AOps.gN ?_;first | (refine AOps.g_callf ?_;first | refine AOps.eo5 (h:=hrec) (k:=fun v hv=>?_)) | refine AOps.p (W.addE (((mid + 1:Nat):Int)) (by omega) (by omega) rfl rfl) rfl ?_) | refine WK ?_ | refine All.i fun X=>?_ | refine AllY.i fun Y=>?_))
  obtain ⟨v1,v2⟩:=hv
  obtain ⟨s1,s2⟩:=r6 v v1 v2
  refine lp_next6 (mid + 1) b' lim1 _ ap v ⟨by omega,hb',by omega,hlim1,v1.1.trans (r3.trans hu3),s1,fun R k1 k2=>?_⟩
  obtain ⟨k3,k4⟩:=s2 R k1 k2
  exact hg3 R k3 k4
 ·have hrec:=ih (b' - (mid + 1)) (by omega) X n d4 (mid + 1) b' lim1 (Nat.le_refl _) (by omega) (by omega) (by omega) (by omega) hlim1 r5
  (repeat (first | (refine AOps.gN ?_;first | (refine AOps.g_callf ?_;first | refine AOps.eo5 (h:=hrec) (k:=fun v hv=>?_)) | refine AOps.p (W.addE (((mid + 1:Nat):Int)) (by omega) (by omega) rfl rfl) rfl ?_) | refine WK ?_ | refine All.i fun X=>?_ | refine AllY.i fun Y=>?_))
  obtain ⟨v1,v2⟩:=hv
  obtain ⟨s1,s2⟩:=r7 v v1 v2
  refine lp_next6 a' mid lim1 _ ap v ⟨by omega,by omega,by omega,hlim1,v1.1.trans (r3.trans hu3),s1,fun R k1 k2=>?_⟩
  obtain ⟨k3,k4⟩:=s2 R k1 k2
  exact hg3 R k3 k4
end
section
open Go.Sort
set_option maxRecDepth 8000 in
theorem sortFuncE_sp (f:FuncId) (cap:List AV) (cf:Ent → Ent → Int) (hst:st1s cap = true) (hS:SWO (ltOf cf)) (hf:∀ x y,PS Try.prog f (entA x :: entA y :: cap) (iA (cf x y))) (X n:Nat) (l:List Ent) (hn:n = l.length) (hlt:l.length < 65536) :
  Spec Try.prog 52 [.sl X 0 n,.fn f cap] [(X,.row 52 2 (l.map entA))] fun r S'=>∃ u:List Ent,(u.Perm l ∧ u.Pairwise fun a b=>ltOf cf b a = false) ∧ r = .tup [] ∧ S' = [(X,.row 52 2 (u.map entA))]:=by
 have e1:(UInt64.ofNat n).toNat = n:=by rw [UInt64.toNat_ofNat'];omega
 have hlen:=len_ps (UInt64.ofNat n) (by rw [e1];omega)
 rw [e1] at hlen
 have hsz:l.toArray.size = l.length:=by simp
 have hb:bitsLen n ≤ 1000:=Nat.le_trans ((bitsLen_le_iff n 16).2 (by show n < 65536;omega)) (by decide)
 have hs:=pdqE_sp f cap cf hst hf hS n X n l.toArray 0 n (bitsLen n) (by omega) (by omega) (Nat.zero_le _) (by omega) (by omega) hb (.inl rfl)
 simp only [List.toList_toArray] at hs
 refine Spec.of (nt:=14) (res:=[]) Try.func52 rfl (by kernel_rfl) rfl rfl rfl fun Sf=>?_
 (repeat (first | (refine AOps.gN ?_;first | (refine AOps.g_callf ?_;first | refine AOps.c1 (h:=(hlen ..)) (k:=?_)) | refine AOps.p5 [] (h:=hs) (fun u hu=>?_) | refine AOps.p (W.toUN .i64 n rfl (by omega) (by kernel_rfl) (by kernel_rfl) rfl) rfl ?_) | refine WK ?_ | refine All.i fun X=>?_ | refine AllY.i fun Y=>?_))
 refine retQ_n ?_
 obtain ⟨h1,h2⟩:=hu
 have h1':PermIn 0 l.toArray.size l.toArray u:=by rw [hsz,← hn];exact h1
 have hus:n = u.size:=by rw [h1'.1,hsz];exact hn
 exact Ends.void [(X,_)] ⟨u.toList,⟨by simpa using permIn_list h1',sortedIn_list hus h2⟩,rfl,rfl⟩
end
theorem indexI_ps (l:List Int) (x:Int) (hl:l.length ≤ 4611686018427387904):PS Try.prog 113 [intsA false l,iA x] (iA (idxF l fun y=>decide (x = y))):=by
 refine Spec.of (nt:=19) (res:=[.tmp 4]) Try.func113 rfl (by kernel_rfl) rfl rfl rfl fun Sf=>?_
 (repeat (first | refine WK ?_ | refine All.i fun X=>?_ | refine AllY.i fun Y=>?_))
 refine AWP.lp (fun i:Nat=>⟨[(0,intsA false l),(1,iA x),(7,iA (l.map iA).length),(8,iA i)],Sf⟩) (fun i=>i ≤ l.length ∧ ∀ j (h:j < l.length),j < i → (decide (x = l[j])) = false) (fun i=>l.length - i) 0 ⟨Nat.zero_le _,fun j h hj=>absurd hj (by omega)⟩ ?_
 rintro i ⟨hi,he⟩
 (repeat (first | refine WK ?_ | refine All.i fun X=>?_ | refine AllY.i fun Y=>?_))
 refine AWP.cond rfl (fun hc=>?_) (fun hc=>?_)
 ·have h:i < l.length:=by simpa using hc
  (repeat (first | refine WK ?_ | refine All.i fun X=>?_ | refine AllY.i fun Y=>?_))
  refine AWP.cond rfl (fun hd=>?_) (fun hd=>?_)
  ·(repeat (first | refine WK ?_ | refine All.i fun X=>?_ | refine AllY.i fun Y=>?_))
   (refine AWP.ret ?_;(repeat (first | refine inB_r ?_ | refine andThen_r ?_));refine retQ_r ?_);refine Ends.ps ?_
   rw [idxF_some h hd fun j hj=>he j (by omega) hj]
  ·(repeat (first | refine WK ?_ | refine All.i fun X=>?_ | refine AllY.i fun Y=>?_))
   refine lp_next (i + 1) ⟨h,fun j h1 h2=>?_⟩
   by_cases e:j = i
   ·subst e;exact hd
   ·exact he j h1 (by omega)
 ·have h:¬ i < l.length:=by simpa using hc
  (repeat (first | refine WK ?_ | refine All.i fun X=>?_ | refine AllY.i fun Y=>?_))
  (refine AWP.ret ?_;(repeat (first | refine inB_r ?_ | refine andThen_r ?_));refine retQ_r ?_);refine Ends.ps ?_
  rw [idxF_none fun j hj=>he j hj (by omega)]
theorem containsI_ps (l:List Int) (x:Int) (hl:l.length ≤ 4611686018427387904):PS Try.prog 88 [intsA false l,iA x] (bA (l.contains x)):=by
 refine Spec.of (nt:=9) (res:=[.tmp 4]) Try.func88 rfl (by kernel_rfl) rfl rfl rfl fun Sf=>?_
 (repeat (first | (refine AOps.gN ?_;first | (refine AOps.g_callf ?_;first | refine AOps.c2 (h:=(indexI_ps l x hl)) (k:=?_))) | refine WK ?_ | refine All.i fun X=>?_ | refine AllY.i fun Y=>?_))
 (refine AWP.ret ?_;(repeat (first | refine inB_r ?_ | refine andThen_r ?_));refine retQ_r ?_);refine Ends.ps ?_
 have h2:decide ((0:Int) ≤ idxF l fun y=>decide (x = y)) = l.contains x:=by
  rw [idxF_any,List.contains_eq_any_beq]
  congr 1
 rw [← h2]
theorem indexFuncI_ps (l:List Int) (f:FuncId) (cap:List AV) (p:Int → Bool) (hs:st1s cap = true) (hl:l.length ≤ 4611686018427387904) (hf:∀ x ∈ l,PS Try.prog f (iA x :: cap) (bA (p x))):PS Try.prog 111 [.lst false 3 1 (l.map iA),.fn f cap] (iA (idxF l p)):=by
 refine Spec.of (nt:=19) (res:=[.tmp 4]) Try.func111 rfl (by kernel_rfl) rfl rfl rfl fun Sf=>?_
 (repeat (first | refine WK ?_ | refine All.i fun X=>?_ | refine AllY.i fun Y=>?_))
 refine AWP.lp (fun i:Nat=>⟨[(0,.lst false 3 1 (l.map iA)),(1,.fn f cap),(7,iA (l.map iA).length),(8,iA i)],Sf⟩) (fun i=>i ≤ l.length ∧ ∀ j (h:j < l.length),j < i → p l[j] = false) (fun i=>l.length - i) 0 ⟨Nat.zero_le _,fun j h hj=>absurd hj (by omega)⟩ ?_
 rintro i ⟨hi,he⟩
 (repeat (first | refine WK ?_ | refine All.i fun X=>?_ | refine AllY.i fun Y=>?_))
 refine AWP.cond rfl (fun hc=>?_) (fun hc=>?_)
 ·have h:i < l.length:=by simpa using hc
  (repeat (first | (refine AOps.gN ?_;first | (refine AOps.g_callv ?_;first | refine AOps.k1 (h:=(hf _ (List.getElem_mem h))) (k:=?_))) | refine WK ?_ | refine All.i fun X=>?_ | refine AllY.i fun Y=>?_))
  refine AWP.cond rfl (fun hd=>?_) (fun hd=>?_)
  ·(repeat (first | refine WK ?_ | refine All.i fun X=>?_ | refine AllY.i fun Y=>?_))
   (refine AWP.ret ?_;(repeat (first | refine inB_r ?_ | refine andThen_r ?_));refine retQ_r ?_);refine Ends.ps ?_
   rw [idxF_some h hd fun j hj=>he j (by omega) hj]
  ·(repeat (first | refine WK ?_ | refine All.i fun X=>?_ | refine AllY.i fun Y=>?_))
   refine lp_next (i + 1) ⟨h,fun j h1 h2=>?_⟩
   by_cases e:j = i
   ·subst e;exact hd
   ·exact he j h1 (by omega)
 ·have h:¬ i < l.length:=by simpa using hc
  (repeat (first | refine WK ?_ | refine All.i fun X=>?_ | refine AllY.i fun Y=>?_))
  (refine AWP.ret ?_;(repeat (first | refine inB_r ?_ | refine andThen_r ?_));refine retQ_r ?_);refine Ends.ps ?_
  rw [idxF_none fun j hj=>he j hj (by omega)]
theorem containsFuncI_ps (l:List Int) (f:FuncId) (cap:List AV) (p:Int → Bool) (hs:st1s cap = true) (hl:l.length ≤ 4611686018427387904) (hf:∀ x ∈ l,PS Try.prog f (iA x :: cap) (bA (p x))):PS Try.prog 83 [.lst false 3 1 (l.map iA),.fn f cap] (bA (l.any p)):=by
 refine Spec.of (nt:=9) (res:=[.tmp 4]) Try.func83 rfl (by kernel_rfl) rfl rfl rfl fun Sf=>?_
 (repeat (first | (refine AOps.gN ?_;first | (refine AOps.g_callf ?_;first | refine AOps.c2 (h:=(indexFuncI_ps l f cap p hs hl hf)) (k:=?_))) | refine WK ?_ | refine All.i fun X=>?_ | refine AllY.i fun Y=>?_))
 (refine AWP.ret ?_;(repeat (first | refine inB_r ?_ | refine andThen_r ?_));refine retQ_r ?_);refine Ends.ps ?_
 rw [← idxF_any]
set_option maxRecDepth 8000 in
theorem tablesO_sp (a:Ar) (ha:ArOK a) (hne:ArNE a.ts):Spec Try.prog 21 [.ptr a.A 0 0] (arS a) fun r S'=>r = .lst true 22 1 ((a.ts.map Tab.ks).map (intsA false)) ∧ S' = arS a:=by
 have htl:=ha.ts_le hne
 have hpt:(ptrs Tab.X a.ts).length = a.ts.length:=List.length_map _
 refine Spec.of (nt:=25) (res:=[.tmp 2]) Try.func21 rfl (by kernel_rfl) rfl rfl rfl fun Sf=>?_
 (repeat refine WF ?_);refine AWP.region ?_;(repeat (first | refine WO ?_ | refine All.i fun X=>?_ | refine AllY.i fun Y=>?_));refine AOps.nil ?_;(repeat refine WN ?_)
 (repeat first | refine AOps.nil ?_ | refine WF ?_)
 (repeat refine WF ?_);refine AWP.region ?_;(repeat (first | refine WO ?_ | refine All.i fun X=>?_ | refine AllY.i fun Y=>?_));refine AOps.nil ?_;(repeat refine WN ?_)
 (repeat first | refine AOps.nil ?_ | refine WF ?_)
 refine AWP.adopt (d:=3) 22 1 rfl fun K=>?_
 (repeat refine WF ?_);refine AWP.region ?_;(repeat (first | refine WO ?_ | refine All.i fun X=>?_ | refine AllY.i fun Y=>?_));refine AOps.nil ?_;(repeat refine WN ?_)
 (repeat first | refine AOps.nil ?_ | refine WF ?_)
 refine AWP.lp2 (fun (j K:Nat)=>⟨[(3,.sl K 0 j),(9,.sl a.Tb 0 a.ts.length),(10,iA (a.ts.length:Nat)),(11,iA j)],(K,.row 22 1 ((a.ts.take j).map fun t=>intsA false t.ks)) :: (arS a ++ Sf)⟩) (fun j _=>j ≤ a.ts.length) (fun j _=>a.ts.length - j) 0 K (by omega) ?_
 rintro j K hj
 have hrl:j = ((a.ts.take j).map fun t=>intsA false t.ks).length:=by rw [List.length_map,List.length_take];omega
 (repeat refine WF ?_);refine AWP.region ?_;(repeat (first | refine WO ?_ | refine All.i fun X=>?_ | refine AllY.i fun Y=>?_));refine AOps.nil ?_;(repeat refine WN ?_)
 (repeat first | refine AOps.nil ?_ | refine WF ?_)
 refine AWP.cond rfl (fun h=>?_) (fun h=>?_)
 ·have h:j < a.ts.length:=by rw [decide_eq_true_eq] at h;omega
  obtain ⟨l1,l2,hsp,hl1⟩:=splitL_at h
  have hto:=ha.tab _ (List.getElem_mem h)
  have hat:(ptrs Tab.X a.ts)[j]? = some (.ptr a.ts[j].X 0 0):=map_at _ h
  have htk:((a.ts.take j).map fun t=>intsA false t.ks) ++ [intsA false a.ts[j].ks] = (a.ts.take (j + 1)).map fun t=>intsA false t.ks:=by rw [List.take_succ_eq_append_getElem h,List.map_append];rfl
  have hcl:=cloneI_ps a.ts[j].ks (by have:=hto.ks;omega)
  obtain ⟨t,ht⟩:∃ t,a.ts[j] = t:=⟨_,rfl⟩
  rw [ht] at hsp hat htk hcl
  (repeat first | refine AOps.nil ?_ | refine WF ?_)
  (repeat refine WF ?_);refine AWP.region ?_;(repeat (first | (refine AOps.gN ?_;first | refine AOps.go (h:=W.idx rfl rfl (by exact At.f) rfl (by omega) (Nat.zero_add _)) (k:=?_)) | refine WO ?_ | refine All.i fun X=>?_ | refine AllY.i fun Y=>?_));refine AOps.nil ?_;(repeat refine WN ?_)
  (repeat first | refine AOps.nil ?_ | refine WF ?_)
  refine AWP.perm (List.Perm.cons _ (ar_open hsp Sf)) ?_
  (repeat refine WF ?_);refine AWP.region ?_;(repeat (first | (refine AOps.gN ?_;first | (refine AOps.g_callf ?_;first | refine AOps.c1 (h:=(hcl ..)) (k:=?_)) | (refine AOps.g_lit ?_;refine AOps.goL (intsA false t.ks) ?_)) | refine WO ?_ | refine All.i fun X=>?_ | refine AllY.i fun Y=>?_));refine AOps.nil ?_;(repeat refine WN ?_)
  rw [htk]
  (repeat first | refine AOps.nil ?_ | refine WF ?_)
  refine AWP.perm (List.Perm.cons _ (ar_open hsp Sf).symm) ?_
  (repeat refine WF ?_);refine AWP.region ?_;(repeat (first | refine WO ?_ | refine All.i fun X=>?_ | refine AllY.i fun Y=>?_));refine AOps.nil ?_;(repeat refine WN ?_)
  exact lp_next2 (j + 1) Y (by omega)
 ·have h:j = a.ts.length:=by rw [decide_eq_false_iff_not] at h;omega
  subst h
  rw [List.take_length] at hrl ⊢
  (repeat first | refine AOps.nil ?_ | refine WF ?_)
  (repeat refine WF ?_);refine AWP.region ?_;(repeat (first | refine WO ?_ | refine All.i fun X=>?_ | refine AllY.i fun Y=>?_));refine AOps.nil ?_;(repeat refine WN ?_)
  (refine AWP.ret ?_;(repeat (first | refine inB_r ?_ | refine andThen_r ?_));refine retQ_r ?_)
  rw [List.map_map]
  exact ⟨[.sl K 0 a.ts.length],[.lst true 22 1 (a.ts.map fun t=>intsA false t.ks)],_,arS a,.cons (.tmp rfl) rfl .nil,.cons (.cell (.sl (p:=0) .here hrl)) .nil,List.Sublist.refl _,rfl,rfl⟩
def skipT (wth wout ks:List Int):Bool:=(wth.any fun k=>!ks.contains k) || wout.any fun k=>ks.contains k
theorem tabs11_ps (ks:List Int) (k:Int) (hl:ks.length ≤ 4611686018427387904):PS Try.prog 87 [iA k,.fp [intsA false ks]] (bA (!ks.contains k)):=by
 refine Spec.of (nt:=8) (res:=[.tmp 3]) Try.func87 rfl (by kernel_rfl) rfl rfl rfl fun Sf=>?_
 (repeat (first | (refine AOps.gN ?_;first | (refine AOps.g_callf ?_;first | refine AOps.c2 (h:=(containsI_ps ks k hl)) (k:=?_))) | refine WK ?_ | refine All.i fun X=>?_ | refine AllY.i fun Y=>?_))
 (refine AWP.ret ?_;(repeat (first | refine inB_r ?_ | refine andThen_r ?_));refine retQ_r ?_);refine Ends.ps ?_
 rfl
theorem tabs12_ps (ks:List Int) (k:Int) (hl:ks.length ≤ 4611686018427387904):PS Try.prog 89 [iA k,.fp [intsA false ks]] (bA (ks.contains k)):=by
 refine Spec.of (nt:=7) (res:=[.tmp 3]) Try.func89 rfl (by kernel_rfl) rfl rfl rfl fun Sf=>?_
 (repeat (first | (refine AOps.gN ?_;first | (refine AOps.g_callf ?_;first | refine AOps.c2 (h:=(containsI_ps ks k hl)) (k:=?_))) | refine WK ?_ | refine All.i fun X=>?_ | refine AllY.i fun Y=>?_))
 (refine AWP.ret ?_;(repeat (first | refine inB_r ?_ | refine andThen_r ?_));refine retQ_r ?_);refine Ends.ps ?_
 rfl
theorem tabs1_ps (ks wth wout:List Int) (hl:ks.length ≤ 4611686018427387904) (h1:wth.length ≤ 4611686018427387904) (h2:wout.length ≤ 4611686018427387904):PS Try.prog 86 [intsA false ks,.fp [intsA false wth],.fp [intsA false wout]] (bA (skipT wth wout ks)):=by
 have c1:=containsFuncI_ps wth 87 [.fp [intsA false ks]] (fun k=>!ks.contains k) rfl h1 (fun x _=>tabs11_ps ks x hl)
 have c2:=containsFuncI_ps wout 89 [.fp [intsA false ks]] (fun k=>ks.contains k) rfl h2 (fun x _=>tabs12_ps ks x hl)
 unfold skipT
 obtain ⟨b1,hb1⟩:∃ b,(wth.any fun k=>!ks.contains k) = b:=⟨_,rfl⟩
 obtain ⟨b2,hb2⟩:∃ b,(wout.any fun k=>ks.contains k) = b:=⟨_,rfl⟩
 rw [hb1] at c1 ⊢
 rw [hb2] at c2 ⊢
 refine Spec.of (nt:=13) (res:=[.tmp 4]) Try.func86 rfl (by kernel_rfl) rfl rfl rfl fun Sf=>?_
 (repeat refine WF ?_);refine AWP.region ?_;(repeat (first | (refine AOps.gN ?_;first | (refine AOps.g_box ?_;refine AOps.goB ?_)) | refine WO ?_ | refine All.i fun X=>?_ | refine AllY.i fun Y=>?_));refine AOps.nil ?_;(repeat refine WN ?_)
 cases b1
 ·(repeat (first | (refine AOps.gN ?_;first | (refine AOps.g_callf ?_;first | refine AOps.c2 (h:=(c1 ..)) (k:=?_) | refine AOps.c2 (h:=(c2 ..)) (k:=?_))) | refine WK ?_ | refine All.i fun X=>?_ | refine AllY.i fun Y=>?_))
  (refine AWP.ret ?_;(repeat (first | refine inB_r ?_ | refine andThen_r ?_));refine retQ_r ?_);refine Ends.ps ?_
  rfl
 ·(repeat (first | (refine AOps.gN ?_;first | (refine AOps.g_callf ?_;first | refine AOps.c2 (h:=(c1 ..)) (k:=?_))) | refine WK ?_ | refine All.i fun X=>?_ | refine AllY.i fun Y=>?_))
  (refine AWP.ret ?_;(repeat (first | refine inB_r ?_ | refine andThen_r ?_));refine retQ_r ?_);refine Ends.ps ?_
  rfl
theorem over1_ps (x y:Ent):PS Try.prog 53 [entA x,entA y] (iA (cmpI x.n y.n)):=by
 refine Spec.of (nt:=10) (res:=[.tmp 4]) Try.func53 rfl (by kernel_rfl) rfl rfl rfl fun Sf=>?_
 (repeat (first | (refine AOps.gN ?_;first | (refine AOps.g_callf ?_;first | refine AOps.c2 (h:=(compare_ps x.n y.n)) (k:=?_)) | (refine AOps.g_box ?_;refine AOps.goB ?_)) | refine WK ?_ | refine All.i fun X=>?_ | refine AllY.i fun Y=>?_))
 (refine AWP.ret ?_;(repeat (first | refine inB_r ?_ | refine andThen_r ?_));refine retQ_r ?_);refine Ends.ps ?_
 rfl
set_option maxRecDepth 8000 in
theorem tablesQ_sp (a:Ar) (ha:ArOK a) (hne:ArNE a.ts) (wth wout:List Int) (h1:wth.length ≤ 4611686018427387904) (h2:wout.length ≤ 4611686018427387904):Spec Try.prog 51 [.ptr a.A 0 0,intsA false wth,intsA false wout] (arS a) fun r S'=>r = .lst true 22 1 (((a.ts.map Tab.ks).filter fun ks=>!skipT wth wout ks).map (intsA false)) ∧ S' = arS a:=by
 have hto:=tablesO_sp a ha hne
 have htl:=ha.ts_le hne
 refine Spec.of (nt:=11) (res:=[.tmp 6]) Try.func51 rfl (by kernel_rfl) rfl rfl rfl fun Sf=>?_
 (repeat refine WF ?_);refine AWP.region ?_;(repeat (first | (refine AOps.gN ?_;first | (refine AOps.g_box ?_;refine AOps.goB ?_)) | refine WO ?_ | refine All.i fun X=>?_ | refine AllY.i fun Y=>?_));refine AOps.nil ?_;(repeat refine WN ?_)
 (repeat first | refine AOps.nil ?_ | refine WF ?_)
 (repeat refine WF ?_);refine AWP.region ?_;(repeat (first | (refine AOps.gN ?_;first | refine AOps.ut1 [] (h:=hto) (k:=fun K=>?_)) | refine WO ?_ | refine All.i fun X=>?_ | refine AllY.i fun Y=>?_))
 rw [List.length_map]
 have hdf:=deleteFuncL_sp K (a.ts.map Tab.ks) 86 [.fp [intsA false wth],.fp [intsA false wout]] (skipT wth wout) rfl (by rw [List.length_map];omega) (fun ks hks=>by
  obtain ⟨t,ht,rfl⟩:=List.mem_map.1 hks
  exact tabs1_ps t.ks wth wout (by have:=(ha.tab t ht).ks;omega) h1 h2)
 (repeat (first | (refine AOps.gN ?_;first | refine AOps.ut2 [] (h:=hdf) (k:=fun Y=>?_)) | refine WO ?_ | refine All.i fun X=>?_ | refine AllY.i fun Y=>?_))
 refine AOps.nil ?_
 (repeat first | refine AOps.nil ?_ | refine WF ?_)
 (refine AWP.ret ?_;(repeat (first | refine inB_r ?_ | refine andThen_r ?_));refine retQ_r ?_)
 exact ⟨[.sl Y 0 _],[.lst true 22 1 (((a.ts.map Tab.ks).filter fun ks=>!skipT wth wout ks).map (intsA false))],_,arS a,.cons (.tmp rfl) rfl .nil,.cons (.cell (.sl (p:=0) .here rfl)) .nil,List.Sublist.refl _,rfl,rfl⟩
def entsL (ts:List Tab):List Ent:=ts.flatMap fun t=>t.es.map (·.2)
theorem entsL_items (ts:List Tab):entsL ts = (arItems ts).map (·.ent):=by
 unfold entsL arItems
 rw [List.map_flatMap]
 congr 1
 funext t
 rw [tItems,List.map_map]
 rfl
theorem entsL_app (a b:List Tab):entsL (a ++ b) = entsL a ++ entsL b:=List.flatMap_append
theorem entsL_sub {a b:List Tab} (h:a.Sublist b):(entsL a).length ≤ (entsL b).length:=by
 induction h with
 | slnil=>exact Nat.le_refl _
 | @cons a b t h ih =>
  have e:(entsL (t :: b)).length = (t.es.map (·.2)).length + (entsL b).length:=by unfold entsL;rw [List.flatMap_cons,List.length_append]
  omega
 | @cons_cons a b t h ih =>
  have e:(entsL (t :: b)).length = (t.es.map (·.2)).length + (entsL b).length:=by unfold entsL;rw [List.flatMap_cons,List.length_append]
  have e2:(entsL (t :: a)).length = (t.es.map (·.2)).length + (entsL a).length:=by unfold entsL;rw [List.flatMap_cons,List.length_append]
  omega
theorem ents_le {a:Ar} (h:ArOK a) {s:List Tab} (hs:s.Sublist a.ts):(entsL s).length ≤ 256:=by
 have h1:=entsL_sub hs
 rw [entsL_items a.ts,List.length_map] at h1
 have h2:=h.c_le
 rw [h.cnt,h.keys_items,List.length_map] at h2
 omega
abbrev fitT (wth wout:List Int) (ts:List Tab):List Tab:=ts.filter fun t=>!skipT wth wout t.ks
set_option maxRecDepth 8000 in
theorem over_sp (a:Ar) (ha:ArOK a) (hne:ArNE a.ts) (wth wout:List Int) (h1:wth.length ≤ 4611686018427387904) (h2:wout.length ≤ 4611686018427387904) (E:List Ent) (hE1:(entsL (fitT wth wout a.ts)).Perm E) (hE2:E.Pairwise fun x y=>x.n < y.n):Spec Try.prog 28 [.ptr a.A 0 0,intsA false wth,intsA false wout] (arS a) fun r S'=>r = .lst true 52 2 (E.map entA) ∧ S' = arS a:=by
 have htq:=tablesQ_sp a ha hne wth wout h1 h2
 have hfm:(a.ts.map Tab.ks).filter (fun ks=>!skipT wth wout ks) = (fitT wth wout a.ts).map Tab.ks:=by
  rw [List.filter_map];rfl
 rw [hfm] at htq
 have hsub:(fitT wth wout a.ts).Sublist a.ts:=List.filter_sublist
 obtain ⟨F,hF⟩:∃ F,fitT wth wout a.ts = F:=⟨_,rfl⟩
 rw [hF] at htq hsub hE1
 have hEl:=ents_le ha hsub
 have htl:=ha.ts_le hne
 have hFl:=hsub.length_le
 refine Spec.of (nt:=28) (res:=[.tmp 6]) Try.func28 rfl (by kernel_rfl) rfl rfl rfl fun Sf=>?_
 (repeat refine WF ?_);refine AWP.region ?_;(repeat (first | refine WO ?_ | refine All.i fun X=>?_ | refine AllY.i fun Y=>?_));refine AOps.nil ?_;(repeat refine WN ?_)
 (repeat first | refine AOps.nil ?_ | refine WF ?_)
 (repeat refine WF ?_);refine AWP.region ?_;(repeat (first | refine WO ?_ | refine All.i fun X=>?_ | refine AllY.i fun Y=>?_));refine AOps.nil ?_;(repeat refine WN ?_)
 (repeat first | refine AOps.nil ?_ | refine WF ?_)
 (repeat refine WF ?_);refine AWP.region ?_;(repeat (first | (refine AOps.gN ?_;first | refine AOps.ut3 [] (h:=htq) (k:=fun K=>?_)) | refine WO ?_ | refine All.i fun X=>?_ | refine AllY.i fun Y=>?_))
 have hKl:((F.map Tab.ks).map (intsA false)).length = F.length:=by rw [List.length_map,List.length_map]
 have hFz:AV.frzs ((F.map Tab.ks).map (intsA false)) = (F.map Tab.ks).map (intsA false):=frzs_same (intsA false) (fun _=>Frz.h) _
 refine AOps.iceL 13 _ hFz ?_
 refine AOps.nil ?_
 (repeat first | refine AOps.nil ?_ | refine WF ?_)
 refine AWP.adopt (d:=7) 52 2 rfl fun O=>?_
 refine AWP.lp3 (fun (j O:Nat) (out:List Ent)=>⟨[(0,.ptr a.A 0 0),(7,.sl O 0 out.length),(13,.lst false 22 1 ((F.map Tab.ks).map (intsA false))),(14,iA ((F.map Tab.ks).map (intsA false)).length),(15,iA j)],(O,.row 52 2 (out.map entA)) :: (arS a ++ Sf)⟩) (fun j _ out=>j ≤ F.length ∧ out = entsL (F.take j)) (fun j _ _=>F.length - j) 0 O [] ⟨Nat.zero_le _,rfl⟩ ?_
 rintro j O out ⟨hj,hout⟩
 (repeat refine WF ?_);refine AWP.region ?_;(repeat (first | refine WO ?_ | refine All.i fun X=>?_ | refine AllY.i fun Y=>?_));refine AOps.nil ?_;(repeat refine WN ?_)
 (repeat first | refine AOps.nil ?_ | refine WF ?_)
 refine AWP.cond rfl (fun hb=>?_) (fun hb=>?_)
 ·have h:j < F.length:=by rw [decide_eq_true_eq,hKl] at hb;omega
  obtain ⟨t,ht⟩:∃ t,F[j] = t:=⟨_,rfl⟩
  have htF:t ∈ a.ts:=hsub.subset (by rw [← ht];exact List.getElem_mem h)
  obtain ⟨x,hx,hxe⟩:=List.getElem_of_mem htF
  have hen:=ents_sp a ha hne x hx
  rw [hxe] at hen
  have hat:((F.map Tab.ks).map (intsA false))[j]? = some (intsA false t.ks):=by rw [List.getElem?_map,List.getElem?_map,List.getElem?_eq_getElem h,ht];rfl
  have hnx:entsL (F.take (j + 1)) = out ++ t.es.map (·.2):=by
   rw [List.take_add_one,List.getElem?_eq_getElem h,ht,Option.toList_some,entsL_app,hout]
   show _ ++ List.flatMap _ [t] = _
   rw [List.flatMap_singleton]
  have hle:=ents_le ha ((List.take_sublist (j + 1) F).trans hsub)
  rw [hnx,List.length_append] at hle
  have hol:(out.map entA).length = out.length:=List.length_map _
  have hel:((t.es.map (·.2)).map entA).length = (t.es.map (·.2)).length:=List.length_map _
  (repeat first | refine AOps.nil ?_ | refine WF ?_)
  (repeat refine WF ?_);refine AWP.region ?_;(repeat (first | refine WO ?_ | refine All.i fun X=>?_ | refine AllY.i fun Y=>?_));refine AOps.nil ?_;(repeat refine WN ?_)
  (repeat first | refine AOps.nil ?_ | refine WF ?_)
  refine AWP.rs fun Y=>?_
  (repeat refine WF ?_);refine AWP.region ?_;(repeat (first | (refine AOps.gN ?_;first | refine AOps.u2 [_,_] (h:=hen) (k:=?_) | refine AOps.goS (h:=W.app (X:=O) (Y:=Y) rfl rfl (by exact At.f) (by exact At.f) hol.symm (by omega) (by unfold maxLen;omega) (by decide)) (k:=?_)) | refine WO ?_ | refine All.i fun X=>?_ | refine AllY.i fun Y=>?_));refine AOps.nil ?_;(repeat refine WN ?_)
  dsimp only [setAll,List.set_cons_zero,List.set_cons_succ,List.cons_append,List.nil_append]
  rw [← List.map_append,hel,← List.length_append]
  (repeat first | refine AOps.nil ?_ | refine WF ?_)
  (repeat refine WF ?_);refine AWP.region ?_;(repeat (first | refine WO ?_ | refine All.i fun X=>?_ | refine AllY.i fun Y=>?_));refine AOps.nil ?_;(repeat refine WN ?_)
  exact lp_next3 (j + 1) Y (out ++ t.es.map (·.2)) ⟨h,hnx.symm⟩ (by omega)
 ·have h:j = F.length:=by rw [decide_eq_false_iff_not,hKl] at hb;omega
  rw [h,List.take_length] at hout
  subst hout
  have hsf:=sortFuncE_sp 53 [] (fun x y=>cmpI x.n y.n) rfl (swo_key Ent.n) (fun x y=>over1_ps x y) O (entsL F).length (entsL F) rfl (by omega)
  (repeat first | refine AOps.nil ?_ | refine WF ?_)
  (repeat refine WF ?_);refine AWP.region ?_;(repeat (first | (refine AOps.gN ?_;first | refine AOps.p2 [] (h:=hsf) (k:=fun u hu=>?_)) | refine WO ?_ | refine All.i fun X=>?_ | refine AllY.i fun Y=>?_));refine AOps.nil ?_;(repeat refine WN ?_)
  obtain ⟨hu1,hu2⟩:=hu
  have hle:u.Pairwise fun x y=>x.n ≤ y.n:=hu2.imp fun {x y} h=>by
   unfold ltOf at h
   simp only [decide_eq_false_iff_not] at h
   have:¬ y.n < x.n:=fun e=>h (cmpI_ltz.2 e)
   omega
  have hue:u = E:=by
   refine List.Perm.eq_of_pairwise (le:=fun x y=>x.n ≤ y.n) (fun x y hx hy g1 g2=>?_) hle (hE2.imp fun h=>by omega) (hu1.trans hE1)
   exact ks_uniq (key:=Ent.n) hE2 ((hu1.trans hE1).mem_iff.1 hx) hy (by omega)
  subst hue
  have hul:=hu1.length_eq
  (repeat first | refine AOps.nil ?_ | refine WF ?_)
  (repeat refine WF ?_);refine AWP.region ?_;(repeat (first | refine WO ?_ | refine All.i fun X=>?_ | refine AllY.i fun Y=>?_));refine AOps.nil ?_;(repeat refine WN ?_)
  (refine AWP.ret ?_;(repeat (first | refine inB_r ?_ | refine andThen_r ?_));refine retQ_r ?_)
  exact ⟨[.sl O 0 (entsL F).length],[.lst true 52 2 (u.map entA)],_,arS a,.cons (.tmp rfl) rfl .nil,.cons (.cell (.sl (p:=0) .here (by rw [List.length_map,hul]))) .nil,List.Sublist.refl _,rfl,rfl⟩
instance tPtrA:TPtr Try.prog 42:=⟨85,by kernel_rfl,by kernel_rfl⟩
theorem baseOk:WdOK baseWd:=(wdErr_iff _).1 (by decide)
theorem tables_one {a:Ar} (h:ArOK a) (hne:ArNE a.ts) {it:Item} (hp:(arItems a.ts).Perm [it]):a.ts.length = 1:=by
 have h1:=hp.length_eq
 have h2:∀ ts:List Tab,(∀ t ∈ ts,t.es ≠ []) → ts.length ≤ (arItems ts).length:=by
  intro ts
  induction ts with
  | nil=>intro _;simp
  | cons t ts ih =>
   intro hh
   have h3:=ih fun t ht=>hh t (by simp [ht])
   have h4:0 < (tItems t).length:=by unfold tItems;rw [List.length_map];exact List.length_pos_iff.2 (hh t (by simp))
   show (t :: ts).length ≤ (List.flatMap tItems (t :: ts)).length
   rw [List.flatMap_cons,List.length_append,List.length_cons]
   have h3:ts.length ≤ (List.flatMap tItems ts).length:=h3
   omega
 have h3:=h2 a.ts hne
 rw [h1] at h3
 cases hts:a.ts with
 | nil=>rw [hts] at h1;cases h1
 | cons t ts=>rw [hts] at h3;simp only [List.length_cons,List.length_nil] at h3 ⊢;omega
set_option maxRecDepth 8000 in
theorem tabled_ps:PS Try.prog 17 [] (bA true):=by
 have hof:=of_sp baseWd baseOk
 refine Spec.of (nt:=20) (res:=[.tmp 0]) Try.func17 rfl (by kernel_rfl) rfl rfl rfl fun Sf=>?_
 (repeat refine WF ?_);refine AWP.region ?_;(repeat (first | refine WO ?_ | refine All.i fun X=>?_ | refine AllY.i fun Y=>?_));refine AOps.nil ?_;(repeat refine WN ?_)
 (repeat first | refine AOps.nil ?_ | refine WF ?_)
 (repeat refine WF ?_);refine AWP.region ?_;(repeat (first | (refine AOps.gN ?_;first | (refine AOps.g_callf ?_;first | refine AOps.c0 (h:=(base_ps ..)) (k:=?_)) | refine AOps.p1 [] (h:=hof) (k:=fun a ha=>?_)) | refine WO ?_ | refine All.i fun X=>?_ | refine AllY.i fun Y=>?_));refine AOps.nil ?_;(repeat refine WN ?_)
 obtain ⟨a1,a2,a3,a4,a5⟩:=ha
 have hts:=tables_one a1 a2 a5
 have htb:=tables_sp a a1 a2
 have htl:(a.ts.map fun t=>intsA false t.ks).length = a.ts.length:=List.length_map _
 have hd:decide (((a.ts.map fun t=>intsA false t.ks).length:Int) = 1) = true:=decide_eq_true (by omega)
 (repeat first | refine AOps.nil ?_ | refine WF ?_)
 (repeat refine WF ?_);refine AWP.region ?_;(repeat (first | (refine AOps.gN ?_;first | refine AOps.go (h:=W.nePtrN rfl rfl (by exact At.f) (by exact Nat.zero_lt_one)) (k:=?_) | refine AOps.u1 [] (h:=htb) (k:=?_)) | refine WO ?_ | refine All.i fun X=>?_ | refine AllY.i fun Y=>?_));refine AOps.nil ?_;(repeat refine WN ?_)
 (refine AWP.ret ?_;(repeat (first | refine inB_r ?_ | refine andThen_r ?_));refine retQ_r ?_)
 refine Ends.ps ?_ (hS:=by repeat (first | exact List.sublist_append_right _ _ | apply List.Sublist.cons))
 exact congrArg bA hd
theorem indexFuncC_ps (l:List Comp) (f:FuncId) (cap:List AV) (p:Comp → Bool) (hs:st1s cap = true) (hl:l.length ≤ 4611686018427387904) (hf:∀ x ∈ l,PS Try.prog f ((compA false) x :: cap) (bA (p x))):PS Try.prog 110 [.lst false 58 2 (l.map (compA false)),.fn f cap] (iA (idxF l p)):=by
 refine Spec.of (nt:=19) (res:=[.tmp 4]) Try.func110 rfl (by kernel_rfl) rfl rfl rfl fun Sf=>?_
 (repeat (first | refine WK ?_ | refine All.i fun X=>?_ | refine AllY.i fun Y=>?_))
 refine AWP.lp (fun i:Nat=>⟨[(0,.lst false 58 2 (l.map (compA false))),(1,.fn f cap),(7,iA (l.map (compA false)).length),(8,iA i)],Sf⟩) (fun i=>i ≤ l.length ∧ ∀ j (h:j < l.length),j < i → p l[j] = false) (fun i=>l.length - i) 0 ⟨Nat.zero_le _,fun j h hj=>absurd hj (by omega)⟩ ?_
 rintro i ⟨hi,he⟩
 (repeat (first | refine WK ?_ | refine All.i fun X=>?_ | refine AllY.i fun Y=>?_))
 refine AWP.cond rfl (fun hc=>?_) (fun hc=>?_)
 ·have h:i < l.length:=by simpa using hc
  (repeat (first | (refine AOps.gN ?_;first | (refine AOps.g_callv ?_;first | refine AOps.k1 (h:=(hf _ (List.getElem_mem h))) (k:=?_))) | refine WK ?_ | refine All.i fun X=>?_ | refine AllY.i fun Y=>?_))
  refine AWP.cond rfl (fun hd=>?_) (fun hd=>?_)
  ·(repeat (first | refine WK ?_ | refine All.i fun X=>?_ | refine AllY.i fun Y=>?_))
   (refine AWP.ret ?_;(repeat (first | refine inB_r ?_ | refine andThen_r ?_));refine retQ_r ?_);refine Ends.ps ?_
   rw [idxF_some h hd fun j hj=>he j (by omega) hj]
  ·(repeat (first | refine WK ?_ | refine All.i fun X=>?_ | refine AllY.i fun Y=>?_))
   refine lp_next (i + 1) ⟨h,fun j h1 h2=>?_⟩
   by_cases e:j = i
   ·subst e;exact hd
   ·exact he j h1 (by omega)
 ·have h:¬ i < l.length:=by simpa using hc
  (repeat (first | refine WK ?_ | refine All.i fun X=>?_ | refine AllY.i fun Y=>?_))
  (refine AWP.ret ?_;(repeat (first | refine inB_r ?_ | refine andThen_r ?_));refine retQ_r ?_);refine Ends.ps ?_
  rw [idxF_none fun j hj=>he j hj (by omega)]
theorem containsFuncC_ps (l:List Comp) (f:FuncId) (cap:List AV) (p:Comp → Bool) (hs:st1s cap = true) (hl:l.length ≤ 4611686018427387904) (hf:∀ x ∈ l,PS Try.prog f ((compA false) x :: cap) (bA (p x))):PS Try.prog 81 [.lst false 58 2 (l.map (compA false)),.fn f cap] (bA (l.any p)):=by
 refine Spec.of (nt:=9) (res:=[.tmp 4]) Try.func81 rfl (by kernel_rfl) rfl rfl rfl fun Sf=>?_
 (repeat (first | (refine AOps.gN ?_;first | (refine AOps.g_callf ?_;first | refine AOps.c2 (h:=(indexFuncC_ps l f cap p hs hl hf)) (k:=?_))) | refine WK ?_ | refine All.i fun X=>?_ | refine AllY.i fun Y=>?_))
 (refine AWP.ret ?_;(repeat (first | refine inB_r ?_ | refine andThen_r ?_));refine retQ_r ?_);refine Ends.ps ?_
 rw [← idxF_any]
def hasK (cs:List Comp) (k:Int):Bool:=cs.any fun c=>decide (c.kind = k)
def matchOf (it:Item) (wth wout:List Int):Bool:=!(wth.any fun k=>!hasK it.comps k) && !(wout.any fun k=>hasK it.comps k)
theorem match11_ps (c:Comp) (k:Int):PS Try.prog 82 [compA false c,.fp [iA k]] (bA (decide (c.kind = k))):=by
 refine Spec.of (nt:=8) (res:=[.tmp 3]) Try.func82 rfl (by kernel_rfl) rfl rfl rfl fun Sf=>?_
 (repeat (first | (refine AOps.gN ?_;first | (refine AOps.g_box ?_;refine AOps.goB ?_)) | refine WK ?_ | refine All.i fun X=>?_ | refine AllY.i fun Y=>?_))
 (refine AWP.ret ?_;(repeat (first | refine inB_r ?_ | refine andThen_r ?_));refine retQ_r ?_);refine Ends.ps ?_
 rfl
theorem match1_ps (it:Item) (k:Int) (hl:it.comps.length ≤ 4611686018427387904):PS Try.prog 80 [iA k,.fp (itemA false it).cells] (bA (hasK it.comps k)):=by
 refine Spec.of (nt:=8) (res:=[.tmp 3]) Try.func80 rfl (by kernel_rfl) rfl rfl rfl fun Sf=>?_
 (repeat (first | (refine AOps.gN ?_;first | (refine AOps.g_callf ?_;first | refine AOps.c2 (h:=(containsFuncC_ps it.comps 82 [.fp [iA k]] (fun c=>decide (c.kind = k)) rfl hl (fun x hx=>match11_ps x k))) (k:=?_)) | (refine AOps.g_box ?_;refine AOps.goB ?_)) | refine WK ?_ | refine All.i fun X=>?_ | refine AllY.i fun Y=>?_))
 (refine AWP.ret ?_;(repeat (first | refine inB_r ?_ | refine andThen_r ?_));refine retQ_r ?_);refine Ends.ps ?_
 rfl
theorem match2_ps (it:Item) (k:Int) (hl:it.comps.length ≤ 4611686018427387904):PS Try.prog 84 [iA k,.fp [.fn 80 [.fp (itemA false it).cells]]] (bA (!hasK it.comps k)):=by
 refine Spec.of (nt:=8) (res:=[.tmp 3]) Try.func84 rfl (by kernel_rfl) rfl rfl rfl fun Sf=>?_
 (repeat (first | (refine AOps.gN ?_;first | (refine AOps.g_callv ?_;first | refine AOps.k1 (h:=(match1_ps it k hl)) (k:=?_))) | refine WK ?_ | refine All.i fun X=>?_ | refine AllY.i fun Y=>?_))
 (refine AWP.ret ?_;(repeat (first | refine inB_r ?_ | refine andThen_r ?_));refine retQ_r ?_);refine Ends.ps ?_
 rfl
theorem match_ps (it:Item) (wth wout:List Int) (hl:it.comps.length ≤ 4611686018427387904) (h1:wth.length ≤ 4611686018427387904) (h2:wout.length ≤ 4611686018427387904):PS Try.prog 49 [itemA false it,intsA false wth,intsA false wout] (bA (matchOf it wth wout)):=by
 have c1:=containsFuncI_ps wth 84 [.fp [.fn 80 [.fp (itemA false it).cells]]] (fun k=>!hasK it.comps k) rfl h1 (fun x _=>match2_ps it x hl)
 have c2:=containsFuncI_ps wout 80 [.fp (itemA false it).cells] (fun k=>hasK it.comps k) rfl h2 (fun x _=>match1_ps it x hl)
 unfold matchOf
 obtain ⟨b1,hb1⟩:∃ b,(wth.any fun k=>!hasK it.comps k) = b:=⟨_,rfl⟩
 obtain ⟨b2,hb2⟩:∃ b,(wout.any fun k=>hasK it.comps k) = b:=⟨_,rfl⟩
 rw [hb1] at c1 ⊢
 rw [hb2] at c2 ⊢
 refine Spec.of (nt:=19) (res:=[.tmp 6]) Try.func49 rfl (by kernel_rfl) rfl rfl rfl fun Sf=>?_
 (repeat refine WF ?_);refine AWP.region ?_;(repeat (first | (refine AOps.gN ?_;first | (refine AOps.g_box ?_;refine AOps.goB ?_)) | refine WO ?_ | refine All.i fun X=>?_ | refine AllY.i fun Y=>?_));refine AOps.nil ?_;(repeat refine WN ?_)
 (repeat refine WF ?_);refine AWP.region ?_;(repeat (first | (refine AOps.gN ?_;first | (refine AOps.g_box ?_;refine AOps.goB ?_)) | refine WO ?_ | refine All.i fun X=>?_ | refine AllY.i fun Y=>?_));refine AOps.nil ?_;(repeat refine WN ?_)
 refine AWP.iceP [7] .here (hf:=.fn1 (.fp (a:=itemA false it) inferInstance)) ?_ (by intro d hd;simp only [List.mem_singleton] at hd;subst hd;rfl)
 cases b1
 ·(repeat (first | (refine AOps.gN ?_;first | (refine AOps.g_callf ?_;first | refine AOps.c2 (h:=(c1 ..)) (k:=?_) | refine AOps.c2 (h:=(c2 ..)) (k:=?_))) | refine WK ?_ | refine All.i fun X=>?_ | refine AllY.i fun Y=>?_))
  (refine AWP.ret ?_;(repeat (first | refine inB_r ?_ | refine andThen_r ?_));refine retQ_r ?_);refine Ends.ps ?_
  rfl
 ·(repeat (first | (refine AOps.gN ?_;first | (refine AOps.g_callf ?_;first | refine AOps.c2 (h:=(c1 ..)) (k:=?_))) | refine WK ?_ | refine All.i fun X=>?_ | refine AllY.i fun Y=>?_))
  (refine AWP.ret ?_;(repeat (first | refine inB_r ?_ | refine andThen_r ?_));refine retQ_r ?_);refine Ends.ps ?_
  rfl
def allTo (l:List Item) (wth wout:List Int):Nat → List (Nat × Item)
 | 0=>[]
 | i + 1=>allTo l wth wout i ++ (match l[i]? with
  | some it=>match matchOf it wth wout with
   | true=>[(i,it)]
   | false=>[]
  | none=>[])
def allOf (l:List Item) (wth wout:List Int):List (Nat × Item):=allTo l wth wout l.length
theorem allTo_yes {l:List Item} {wth wout:List Int} {i:Nat} (h:i < l.length) (hm:matchOf l[i] wth wout = true):allTo l wth wout (i + 1) = allTo l wth wout i ++ [(i,l[i])]:=by
 simp [allTo,List.getElem?_eq_getElem h,hm]
theorem allTo_no {l:List Item} {wth wout:List Int} {i:Nat} (h:i < l.length) (hm:matchOf l[i] wth wout = false):allTo l wth wout (i + 1) = allTo l wth wout i:=by
 simp [allTo,List.getElem?_eq_getElem h,hm]
theorem allTo_len (l:List Item) (wth wout:List Int) (i:Nat):(allTo l wth wout i).length ≤ i:=by
 induction i with
 | zero=>simp [allTo]
 | succ i ih =>
  rw [allTo,List.length_append]
  split
  ·split <;> simp <;> omega
  ·simp;omega
def rowA (q:Nat × Item):AV:=.agg [iA q.1,iA q.2.ent.n,iA q.2.ent.gen,compsA false false q.2.comps]
instance {q:Nat × Item}:Frz (rowA q) (rowA q):=⟨by
 show AV.agg [_,_,_,(compsA false false q.2.comps).frz] = _
 rw [show (compsA false false q.2.comps).frz = compsA false false q.2.comps from Frz.h]
 rfl⟩
abbrev rowsA (l:List (Nat × Item)):AV:=.lst false 111 4 (l.map rowA)
theorem all_ps (w:Wd) (wth wout:List Int) (h0:w.items.length ≤ 1099511627776) (hl:∀ it ∈ w.items,it.comps.length ≤ 1099511627776 ∧ ∀ c ∈ it.comps,c.vals.length ≤ 1099511627776) (h1:wth.length ≤ 4611686018427387904) (h2:wout.length ≤ 4611686018427387904) :
  PS Try.prog 26 [wdA false w,intsA false wth,intsA false wout] (.fn 50 [.fp [rowsA (allOf w.items wth wout)]]):=by
 refine Spec.of (nt:=35) (res:=[.tmp 6]) Try.func26 rfl (by kernel_rfl) rfl rfl rfl fun Sf=>?_
 (repeat refine WF ?_);refine AWP.region ?_;(repeat (first | (refine AOps.gN ?_;first | (refine AOps.g_box ?_;refine AOps.goB ?_)) | refine WO ?_ | refine All.i fun X=>?_ | refine AllY.i fun Y=>?_));refine AOps.nil ?_;(repeat refine WN ?_)
 (repeat refine WF ?_);refine AWP.region ?_;(repeat (first | refine WO ?_ | refine All.i fun X=>?_ | refine AllY.i fun Y=>?_));refine AOps.nil ?_;(repeat refine WN ?_)
 refine AWP.adoptIn 111 4 .here (fun K=>.cons (.base .nil) .nil) fun K=>?_
 (repeat (first | refine WK ?_ | refine All.i fun X=>?_ | refine AllY.i fun Y=>?_))
 refine AWP.lp4 (fun (i K:Nat) (M:List AV) (n:Nat)=>⟨[(1,intsA false wth),(2,intsA false wout),(7,.ptr X 0 0),(11,itemsA false false w.items),(12,iA (w.items.map (itemA false)).length),(13,iA i)],(K,.row 111 4 M) :: (X,.row 108 1 [.sl K 0 n]) :: Sf⟩) (fun i _ M n=>i ≤ w.items.length ∧ M = (allTo w.items wth wout i).map rowA ∧ n = M.length) (fun i _ _ _=>w.items.length - i) 0 K [] 0 ⟨Nat.zero_le _,rfl,rfl⟩ ?_
 rintro i K M n ⟨hi,hM,hn⟩
 (repeat (first | refine WK ?_ | refine All.i fun X=>?_ | refine AllY.i fun Y=>?_))
 refine AWP.cond rfl (fun hc=>?_) (fun hc=>?_)
 ·have h:i < w.items.length:=by simpa using hc
  have hn1:n + 1 ≤ 1099511627776:=by have:=allTo_len w.items wth wout i;rw [hn,hM,List.length_map];omega
  obtain ⟨hc1,hc2⟩:=hl _ (List.getElem_mem h)
  obtain ⟨b,hb⟩:∃ b,matchOf w.items[i] wth wout = b:=⟨_,rfl⟩
  have hm:=match_ps w.items[i] wth wout (by omega) h1 h2
  rw [hb] at hm
  (repeat (first | (refine AOps.gN ?_;first | (refine AOps.g_callf ?_;first | refine AOps.c3 (h:=(hm ..)) (k:=?_))) | refine WK ?_ | refine All.i fun X=>?_ | refine AllY.i fun Y=>?_))
  cases b
  ·refine AWP.cond_f rfl rfl ?_
   (repeat (first | refine WK ?_ | refine All.i fun X=>?_ | refine AllY.i fun Y=>?_))
   refine lp_next4 (i + 1) K M n ⟨h,?_,hn⟩
   rw [allTo_no h hb,hM]
  ·refine AWP.cond_t rfl rfl ?_
   refine AWP.rs fun X7=>?_
   (repeat refine WF ?_);refine AWP.region_run (by kernel_rfl) (by kernel_rfl) ?_;(repeat (first | (refine RGo.gN ?_;first | (refine RGo.g_callf ?_;first | refine RGo.c1 (h:=(copyComps_ps _ hc1 hc2)) (k:=?_)) | (refine RGo.g_lit ?_;refine RGo.goL (rowA (i,w.items[i])) ?_)) | (refine RGo.gQ ?_;first | (refine RGo.g_callf ?_;first | refine RGo.c1 (h:=(copyComps_ps _ hc1 hc2)) (k:=?_)) | (refine RGo.g_lit ?_;refine RGo.goL (rowA (i,w.items[i])) ?_)) | refine RK ?_ | refine RGo.nil (by kernel_rfl) ?_))
   (repeat (first | refine WK ?_ | refine All.i fun X=>?_ | refine AllY.i fun Y=>?_))
   refine lp_next4 (i + 1) X7 _ _ ⟨h,?_,?_⟩
   ·rw [allTo_yes h hb,hM,List.map_append];rfl
   ·rw [List.length_append,hn]
 ·have h:i = w.items.length:=by rw [decide_eq_false_iff_not,List.length_map] at hc;omega
  subst h
  (repeat first | refine AOps.nil ?_ | refine WF ?_)
  refine AWP.iceIn (X:=K) .here (.next .here) rfl (.cons (.base (.sl (by omega))) .nil) ?_
  have hF:AV.frzs ((M.drop 0).take n) = (allOf w.items wth wout).map rowA:=by
   rw [List.drop_zero,List.take_of_length_le (by omega),hM]
   exact Frzs.h
  rw [hF]
  refine AWP.iceP [7] (.next .here) ?_ (by intro d hd;simp only [List.mem_singleton] at hd;subst hd;rfl)
  (repeat (first | refine WK ?_ | refine All.i fun X=>?_ | refine AllY.i fun Y=>?_))
  (refine AWP.ret ?_;(repeat (first | refine inB_r ?_ | refine andThen_r ?_));refine retQ_r ?_);refine Ends.ps ?_
  rfl
theorem all1_itr (l:List (Nat × Item)) (h0:l.length ≤ 1099511627776) (hl:∀ q ∈ l,q.2.comps.length ≤ 1099511627776 ∧ ∀ c ∈ q.2.comps,c.vals.length ≤ 1099511627776):Itr Try.prog 50 [.fp [rowsA l]] (l.map fun q=>[iA q.1,itemA false q.2]):=by
 refine ⟨by kernel_rfl,fun y J Jx hY Sl hJ0=>?_⟩
 refine Spec.of (nt:=25) (res:=[]) Try.func50 rfl (by kernel_rfl) rfl rfl rfl fun Sf=>?_
 (repeat refine WF ?_);refine AWP.region ?_;(repeat (first | refine WO ?_ | refine All.i fun X=>?_ | refine AllY.i fun Y=>?_));refine AOps.nil ?_;(repeat refine WN ?_)
 (repeat first | refine AOps.nil ?_ | refine WF ?_)
 refine AWP.lp2 (fun (i:Nat) (Sl:List Slot)=>⟨[(0,.prim y),(5,rowsA l),(6,iA (l.map rowA).length),(7,iA i)],Sl ++ Sf⟩) (fun i Sl=>i ≤ l.length ∧ J i Sl) (fun i _=>l.length - i) 0 Sl ⟨Nat.zero_le _,hJ0⟩ ?_
 rintro i Sl ⟨hi,hJ⟩
 (repeat (first | refine WK ?_ | refine All.i fun X=>?_ | refine AllY.i fun Y=>?_))
 refine AWP.cond rfl (fun hc=>?_) (fun hc=>?_)
 ·have h:i < l.length:=by simpa using hc
  obtain ⟨hc1,hc2⟩:=hl _ (List.getElem_mem h)
  (repeat (first | refine WK ?_ | refine All.i fun X=>?_ | refine AllY.i fun Y=>?_))
  (repeat refine WF ?_);refine AWP.region_tail 11 (by kernel_rfl) (by kernel_rfl) (by kernel_rfl) ?_;dsimp only [List.take,List.drop];(repeat (first | (refine RGo.gN ?_;first | (refine RGo.g_callf ?_;first | refine RGo.c1 (h:=(copyComps_ps _ hc1 hc2)) (k:=?_))) | (refine RGo.gQ ?_;first | (refine RGo.g_callf ?_;first | refine RGo.c1 (h:=(copyComps_ps _ hc1 hc2)) (k:=?_))) | refine RK ?_ | refine RGo.nil (by kernel_rfl) ?_))
  refine AOps.sub (S':=Sl ++ Sf) (by exact Sub.f) ?_
  refine AOps.yield2 (Si:=[]) hY hJ (show (l.map fun q=>[iA q.1,itemA false q.2])[i]? = some [iA l[i].1,itemA false l[i].2] by simp [h]) (fun Sl' hk=>?_) (fun Sl' hk=>?_)
  ·(repeat (first | refine WK ?_ | refine All.i fun X=>?_ | refine AllY.i fun Y=>?_))
   refine AWP.cond_f rfl rfl ?_
   (repeat (first | refine WK ?_ | refine All.i fun X=>?_ | refine AllY.i fun Y=>?_))
   refine lp_next2 (i + 1) Sl' ⟨h,hk⟩
  ·(repeat (first | refine WK ?_ | refine All.i fun X=>?_ | refine AllY.i fun Y=>?_))
   refine AWP.cond_t rfl rfl ?_
   (refine AWP.ret ?_;(repeat (first | refine inB_r ?_ | refine andThen_r ?_));refine retQ_r ?_)
   exact Ends.void Sl' (.inr hk)
 ·have h:i = l.length:=by rw [decide_eq_false_iff_not,List.length_map] at hc;omega
  subst h
  (repeat (first | refine WK ?_ | refine All.i fun X=>?_ | refine AllY.i fun Y=>?_))
  refine retQ_n ?_
  exact Ends.void Sl (.inl (by rw [List.length_map];exact hJ))
theorem allOf_len (l:List Item) (wth wout:List Int):(allOf l wth wout).length ≤ l.length:=allTo_len l wth wout l.length
theorem allTo_mem {l:List Item} {wth wout:List Int} {i:Nat} {q:Nat × Item} (h:q ∈ allTo l wth wout i):q.2 ∈ l:=by
 induction i with
 | zero=>simp [allTo] at h
 | succ i ih =>
  rw [allTo,List.mem_append] at h
  rcases h with h | h
  ·exact ih h
  ·split at h
   ·rename_i it hit
    split at h
    ·simp only [List.mem_singleton] at h
     subst h
     exact List.mem_of_getElem? hit
    ·cases h
   ·cases h
theorem count_ps (w:Wd) (wth wout:List Int) (h0:w.items.length ≤ 1099511627776) (hl:∀ it ∈ w.items,it.comps.length ≤ 1099511627776 ∧ ∀ c ∈ it.comps,c.vals.length ≤ 1099511627776) (h1:wth.length ≤ 4611686018427387904) (h2:wout.length ≤ 4611686018427387904) :
  PS Try.prog 24 [wdA false w,intsA false wth,intsA false wout] (iA (allOf w.items wth wout).length):=by
 have hI:=all1_itr (allOf w.items wth wout) (Nat.le_trans (allOf_len _ _ _) h0) (fun q hq=>hl _ (allTo_mem hq))
 have hlen:=allOf_len w.items wth wout
 refine Spec.of (nt:=17) (res:=[.tmp 6]) Try.func24 rfl (by kernel_rfl) rfl rfl rfl fun Sf=>?_
 (repeat refine WF ?_);refine AWP.region ?_;(repeat (first | (refine AOps.gN ?_;first | (refine AOps.g_box ?_;refine AOps.goB ?_)) | refine WO ?_ | refine All.i fun X=>?_ | refine AllY.i fun Y=>?_));refine AOps.nil ?_;(repeat refine WN ?_)
 (repeat refine WF ?_);refine AWP.region ?_;(repeat (first | refine WO ?_ | refine All.i fun X=>?_ | refine AllY.i fun Y=>?_));refine AOps.nil ?_;(repeat refine WN ?_)
 (repeat refine WF ?_);refine AWP.region ?_;(repeat (first | (refine AOps.gN ?_;first | (refine AOps.g_callf ?_;first | refine AOps.c3 (h:=(all_ps w wth wout h0 hl h1 h2)) (k:=?_))) | refine WO ?_ | refine All.i fun X=>?_ | refine AllY.i fun Y=>?_));refine AOps.nil ?_;(repeat refine WN ?_)
 (repeat first | refine AOps.nil ?_ | refine WF ?_)
 refine AWP.rangeF (Sf:=Sf) hI (fun n:Nat=>[(X,.row 3 1 [iA n])]) (fun i n=>n = i) 0 rfl ?_ ?_ rfl rfl rfl ?_ ?_
 ·rintro i vs n l F1 F2 hi rfl
  have hn:n < (allOf w.items wth wout).length:=by
   have:=(List.getElem?_eq_some_iff.1 hi).1
   simpa using this
  rw [List.getElem?_map,List.getElem?_eq_getElem hn] at hi
  obtain rfl:_ = vs:=Option.some.inj hi
  refine AWP.skip ⟨[(X,.row 3 1 [iA n])],.refl _,?_⟩
  (repeat (first | refine WK ?_ | refine All.i fun X=>?_ | refine AllY.i fun Y=>?_))
  exact ⟨[(X,.row 3 1 [iA (n + 1)])],.refl _,n + 1,rfl,rfl⟩
 ·intro n hn
  (repeat (first | refine WK ?_ | refine All.i fun X=>?_ | refine AllY.i fun Y=>?_))
  (refine AWP.ret ?_;(repeat (first | refine inB_r ?_ | refine andThen_r ?_));refine retQ_r ?_);refine Ends.ps ?_
  rw [show n = (allOf w.items wth wout).length by simpa using hn]
 ·intro vs hvs
  obtain ⟨q,_,rfl⟩:=List.mem_map.1 hvs
  rfl
 ·exact .refl _
theorem entNeq (a b c d:Int) (w:World):(binOp .neq 52 (.agg [Value.int .i64 a,Value.int .i64 b].toArray) (.agg [Value.int .i64 c,Value.int .i64 d].toArray)).run Try.prog w = .ok (.bool (!(decide (a = c) && decide (b = d)))) w:=by
 have h:=eq_twoF (P:=Try.prog) (t:=52) 9998 (by kernel_rfl) (by kernel_rfl) (by kernel_rfl) a b c d w
 rw [run_neq_struct]
 have e:(Op.equalIn 10000 52 (.agg [Value.int .i64 a,Value.int .i64 b].toArray) (.agg [Value.int .i64 c,Value.int .i64 d].toArray)).run Try.prog w = _:=h
 rw [e,Result.andThen_ok]
theorem ent_ne (a b:Ent):(!(decide (a.n = b.n) && decide (a.gen = b.gen))) = decide (a ≠ b):=by
 cases a;cases b
 simp only [ne_eq,Ent.mk.injEq]
 rw [decide_not,Bool.decide_and]
theorem equalE_ps (a b:List Ent) (hl:a.length ≤ 1099511627776):PS Try.prog 27 [entsA a,entsA b] (bA (decide (a = b))):=by
 refine Spec.of (nt:=26) (res:=[.tmp 4]) Try.func27 rfl (by kernel_rfl) rfl rfl rfl fun Sf=>?_
 (repeat (first | refine WK ?_ | refine All.i fun X=>?_ | refine AllY.i fun Y=>?_))
 refine AWP.cond rfl (fun hb=>?_) (fun hb=>?_)
 ·have hb:a.length ≠ b.length:=by simp at hb;omega
  (repeat (first | refine WK ?_ | refine All.i fun X=>?_ | refine AllY.i fun Y=>?_))
  (refine AWP.ret ?_;(repeat (first | refine inB_r ?_ | refine andThen_r ?_));refine retQ_r ?_);refine Ends.ps ?_
  rw [decide_eq_false fun e=>hb (by rw [e])]
 ·have hb:a.length = b.length:=by simp at hb;omega
  (repeat (first | refine WK ?_ | refine All.i fun X=>?_ | refine AllY.i fun Y=>?_))
  refine AWP.lp (fun i:Nat=>⟨[(0,entsA a),(1,entsA b),(12,iA (a.map entA).length),(13,iA i)],Sf⟩) (fun i=>i ≤ a.length ∧ ∀ j (h:j < a.length),j < i → a[j] = b[j]'(by omega)) (fun i=>a.length - i) 0 ⟨Nat.zero_le _,fun j h hj=>absurd hj (by omega)⟩ ?_
  rintro i ⟨hi,he⟩
  (repeat (first | refine WK ?_ | refine All.i fun X=>?_ | refine AllY.i fun Y=>?_))
  refine AWP.cond rfl (fun hc=>?_) (fun hc=>?_)
  ·have h:i < a.length:=by simpa using hc
   have h':i < b.length:=by omega
   obtain ⟨x,hx⟩:∃ x,a[i] = x:=⟨_,rfl⟩
   obtain ⟨y,hy⟩:∃ y,b[i] = y:=⟨_,rfl⟩
   have hat1:(a.map entA)[i]? = some (entA x):=by rw [List.getElem?_map,List.getElem?_eq_getElem h,hx];rfl
   have hat2:(b.map entA)[i]? = some (entA y):=by rw [List.getElem?_map,List.getElem?_eq_getElem h',hy];rfl
   (repeat (first | refine WK ?_ | refine All.i fun X=>?_ | refine AllY.i fun Y=>?_))
   (repeat refine WF ?_);refine AWP.region_run (by kernel_rfl) (by kernel_rfl) ?_;(repeat (first | (refine RGo.gN ?_;first | refine RGo.p (W.idxL rfl rfl rfl hat1) rfl ?_ | refine RGo.p (W.idxL rfl rfl rfl hat2) rfl ?_ | refine RGo.p (W.neP _ _ (by kernel_rfl) (entNeq x.n x.gen y.n y.gen) rfl rfl) rfl ?_) | (refine RGo.gQ ?_;first | refine RGo.p (W.idxL rfl rfl rfl hat1) rfl ?_ | refine RGo.p (W.idxL rfl rfl rfl hat2) rfl ?_ | refine RGo.p (W.neP _ _ (by kernel_rfl) (entNeq x.n x.gen y.n y.gen) rfl rfl) rfl ?_) | refine RK ?_ | refine RGo.nil (by kernel_rfl) ?_))
   (repeat (first | refine WK ?_ | refine All.i fun X=>?_ | refine AllY.i fun Y=>?_))
   have hne:=ent_ne x y
   refine AWP.cond rfl (fun hd=>?_) (fun hd=>?_)
   ·have hd:x ≠ y:=by rw [hne] at hd;exact of_decide_eq_true hd
    (repeat (first | refine WK ?_ | refine All.i fun X=>?_ | refine AllY.i fun Y=>?_))
    (refine AWP.ret ?_;(repeat (first | refine inB_r ?_ | refine andThen_r ?_));refine retQ_r ?_);refine Ends.ps ?_
    rw [decide_eq_false fun e=>hd (by subst e;rw [← hx,← hy])]
   ·have hd:x = y:=by rw [hne] at hd;exact Decidable.not_not.1 (of_decide_eq_false hd)
    (repeat (first | refine WK ?_ | refine All.i fun X=>?_ | refine AllY.i fun Y=>?_))
    refine lp_next (i + 1) ⟨h,fun j h1 h2=>?_⟩
    by_cases e:j = i
    ·subst e;rw [hx,hy,hd]
    ·exact he j h1 (by omega)
  ·have h:¬ i < a.length:=by simpa using hc
   (repeat (first | refine WK ?_ | refine All.i fun X=>?_ | refine AllY.i fun Y=>?_))
   (refine AWP.ret ?_;(repeat (first | refine inB_r ?_ | refine andThen_r ?_));refine retQ_r ?_);refine Ends.ps ?_
   rw [decide_eq_true (List.ext_getElem hb fun j h1 h2=>he j h1 (by omega))]
section
open Go.RowKit
def baseM (w:World):Mem:=⟨fun _=>none,fun _=>False,w,fun b=>b < w.heap.size⟩
theorem baseM_good (w:World):Good (baseM w) (baseM w) 0 [] [] :=
 ⟨fun z hz=>(by cases hz),.nil,fun b hb=>(by cases hb),fun b h=>h,.nil,fun x hx=>(by cases hx),fun x h=>h.elim,.refl _,rfl,rfl,rfl,Nat.le_refl _⟩
theorem Good.bel {w:World} {m':Mem} {N:Nat} {Z:Zs} {br:List Nat} (G:Good (baseM w) m' N Z br):Below w.heap.size w m'.w :=
 ⟨G.os,G.tape,G.output,G.size,fun k hk=>(G.le.F k hk).2⟩
theorem PS.calls_bool {P:Program} {f:FuncId} {args:List AV} {b:Bool} (h:PS P f args (bA b)) {w:World} {vals:Array Value} (hv:VTs (baseM w) args vals.toList []) :
  Calls P f vals w fun e w'=>e = .returned (.bool b) ∧ Below w.heap.size w w' :=
 (h.run [] (baseM w) 0 [] vals rfl (baseM_good w) hv).mono fun e w' ⟨v,r,S',m',N',Z',br,h1,h2,h3,G,h4,h5,h6⟩=>by
  subst h1 h2 h5
  refine ⟨?_,G.bel⟩
  obtain ⟨⟨h7,_⟩,_⟩:=h4
  injection h7 with h7
  rw [h7]
theorem cells_vcs {α:Type} {m:Mem} {C:List Value → α → Prop} {sz:Nat} {f:α → AV} (hC:∀ c x,C c x → VC m (f x) c []):∀ {l:List α} {xs:List Value},Cells C sz xs l → VCs m (l.map f) xs []
 | [],_,h=>⟨h,rfl⟩
 | x :: l,_,⟨c,ys,h1,h2,h3,h4⟩=>⟨c,ys,[],[],h1,rfl,hC c x h3,cells_vcs hC h4⟩
theorem cell_block {w:World} {b o:Nat} {u:Value} (h:w.cell? ⟨b,o,none⟩ = some u):∃ arr t r,w.heap[b]? = some (.cells arr t r) ∧ arr[o]? = some u:=by
 unfold World.cell? at h
 cases hb:w.heap[b]? with
 | none=>simp only [hb] at h;cases h
 | some blk =>
  cases blk with
  | cells c t r=>simp only [hb] at h;exact ⟨c,t,r,rfl,by simpa using h⟩
  | _=>simp only [hb] at h;cases h
theorem sl_vc {α:Type} {w:World} {C:World → Reg → List Value → α → Prop} {sz:Nat} {f:α → AV} {t:TypeId} {v:Value} {l:List α} (hsz:0 < sz) (hC:∀ c x,C w (Lt w) c x → VC (baseM w) (f x) c []) (hw:∀ x,(f x).width = sz) (h:Sl w (Lt w) sz C v l):VC (baseM w) (.lst false t sz (l.map f)) [v] []:=by
 obtain ⟨xs,⟨h1,A,cap,rfl,hn,hr⟩,hc⟩:=h
 refine ⟨rfl,A,cap,by simp,by simpa using hn,fun e he=>by obtain ⟨x,_,rfl⟩:=List.mem_map.1 he;exact hw x,fun h0=>?_⟩
 have h0:0 < l.length:=by simpa using h0
 obtain ⟨b,off,rfl,hb,hcell⟩:=hr h0
 have hx:0 < xs.length:=by rw [h1];exact Nat.mul_pos h0 hsz
 obtain ⟨arr,t',r,h2,h3⟩:=cell_block (hcell 0 xs[0] (by simp))
 refine ⟨b,off,arr,t',r,rfl,hb,h2,?_⟩
 have e:(arr.toList.drop off).take ((l.map f).length * sz) = xs:=by
  apply List.ext_getElem?
  intro j
  rw [List.getElem?_take]
  split
  ·rename_i hj
   have hj:j < xs.length:=by rw [h1];simpa using hj
   obtain ⟨arr2,t2,r2,h4,h5⟩:=cell_block (hcell j xs[j] (by simp))
   rw [h2] at h4
   injection h4 with h4
   injection h4 with h4
   subst h4
   rw [List.getElem?_drop,List.getElem?_eq_getElem hj]
   simpa using h5
  ·rename_i hj
   rw [List.getElem?_eq_none]
   rw [h1];simpa using hj
 rw [e]
 exact cells_vcs hC hc
theorem ints_vc {w:World} {v:Value} {l:List Int} (h:Ints w (Lt w) v l):VC (baseM w) (intsA false l) [v] [] :=
 sl_vc (f:=iA) (by decide) (fun c x hc=>⟨⟨hc,rfl⟩,rfl⟩) (fun _=>rfl) h
theorem vts_nil {m:Mem}:VTs m [] [] []:=⟨rfl,rfl⟩
theorem vts_ints {w:World} {v:Value} {z:List Int} {l:List AV} {us:List Value} (h:Ints w (Lt w) v z) (k:VTs (baseM w) l us []):VTs (baseM w) (intsA false z :: l) (v :: us) []:=(VTs_cons rfl).2 ⟨_,_,[],[],rfl,rfl,ints_vc h,k⟩
end
end Go.Proofs.Ytnlekapghebhlaa
