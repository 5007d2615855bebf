/-
  Part 7 of the texts under the law CmdSplits: the layer of abstract values, walks and plain laws. Conditions: those that each theorem names.
-/
import Derived.Test.YtnlekapghebhlaaGreatCmdSplitsP6
namespace Go.Proofs.YtnlekapghebhlaaGreat
set_option linter.unusedVariables false
set_option linter.unusedSimpArgs false
theorem put_no (a:Ar) (ha:ArOK a) (e:Ent) (c:Comp) (hn:I64 e.n) (hh:hasA a e = false):Spec Tryz.prog 131 [.ptr a.A 0 0,entA e,compA false c] (arS a) fun r S'=>r = iA 4 ∧ S' = arS a:=by
 have hs:=has_sp a ha e hn
 rw [hh] at hs
 refine Spec.of (nt:=77) (res:=[.tmp 6]) Tryz.func131 rfl (by kernel_rfl) rfl rfl rfl fun Sf=>?_
 (repeat refine WF ?_);refine AWP.region ?_;(repeat (first | refine WO ?_ | refine All.i fun B=>?_ | refine AllY.i fun Y=>?_));refine AOps.nil ?_;(repeat refine WN ?_)
 (repeat first | refine AOps.nil ?_ | refine WF ?_)
 (repeat refine WF ?_);refine AWP.region ?_;(repeat (first | (refine AOps.gN ?_;first | refine AOps.u2 [_,_] (h:=hs) (k:=?_)) | refine WO ?_ | refine All.i fun X=>?_ | refine AllY.i fun Y=>?_));refine AOps.nil ?_;(repeat refine WN ?_)
 refine AWP.cond_t rfl rfl ?_
 (repeat first | refine AOps.nil ?_ | refine WF ?_)
 (repeat refine WF ?_);refine AWP.region ?_;(repeat (first | refine WO ?_ | refine All.i fun X=>?_ | refine AllY.i fun Y=>?_));refine AOps.nil ?_;(repeat refine WN ?_)
 (refine AWP.ret ?_;(repeat (first | refine inB_r ?_ | refine andThen_r ?_));refine retQ_r ?_)
 exact Ends.sp [iA 4] (arS a) ⟨rfl,rfl⟩
theorem put1_ps (a b:Comp):PS Tryz.prog 157 [compA false a,compA false b] (iA (cmpI a.kind b.kind)):=by
 refine Spec.of (nt:=10) (res:=[.tmp 4]) Tryz.func157 rfl (by kernel_rfl) rfl rfl rfl fun Sf=>?_
 (repeat (first | (refine AOps.gN ?_;first | (refine AOps.g_callf ?_;first | refine AOps.c2 (h:=(compare_ps a.kind b.kind)) (k:=?_)) | (refine AOps.g_box ?_;refine AOps.goB ?_)) | refine WK ?_ | refine All.i fun X=>?_ | refine AllY.i fun Y=>?_))
 (refine AWP.ret ?_;(repeat (first | refine inB_r ?_ | refine andThen_r ?_));refine retQ_r ?_);refine Ends.ps ?_
 rfl
theorem wFit_sng {ks:List Kind} {c:Comp} {fl:List Comp} (h:wFit ks [c] = (fl,0)):∃ v,fl = [⟨c.kind,v⟩]:=by
 unfold wFit at h
 split at h
 ·rename_i h1;injection h with h2 h3;exact absurd h3 h1
 split at h
 ·rename_i h1;injection h with h2 h3;exact absurd h3 h1
 rename_i h0 h1
 injection h with h2 h3
 have h1:(fitGo ks [] [] [c]).2 = 0:=Decidable.not_not.1 h1
 rw [← h2]
 rw [fitGo] at h1 ⊢
 split at h1
 ·cases h1
 ·rename_i g1
  rw [if_neg g1]
  split at h1
  ·cases h1
  ·rename_i g2
   rw [if_neg g2]
   split at h1
   ·cases h1
   ·rename_i k hk
    split at h1
    ·rename_i g3;exact absurd h1 g3
    ·rename_i g3
     simp only [if_neg g3,fitGo,kSort,List.nil_append,List.mergeSort_singleton]
     exact ⟨_,rfl⟩
def PutR (a:Ar) (e:Ent) (l:List Comp) (c:Comp) (b:Ar):Prop:=((wFit a.kinds [c]).2 ≠ 0 ∧ b = a) ∨ ∃ d,wFit a.kinds [c] = ([d],0) ∧ SwapR a e l (insC l d) b
theorem put_sorted {l u:List Comp} {d:Comp} (hl:SortC l) (hd:d.kind ∉ l.map (·.kind)) (hp:u.Perm (l ++ [d])) (hs:u.Pairwise fun a b=>ltOf (fun x y:Comp=>cmpI x.kind y.kind) b a = false):u = insC l d:=by
 have hle:u.Pairwise fun a b=>a.kind ≤ b.kind:=hs.imp fun {x y} h=>by
  unfold ltOf at h
  simp only [decide_eq_false_iff_not] at h
  have:¬ y.kind < x.kind:=fun e=>h (cmpI_ltz.2 e)
  omega
 have hne:(l ++ [d]).Pairwise fun a b=>a.kind ≠ b.kind:=by
  rw [List.pairwise_append]
  refine ⟨hl.imp fun h=>by omega,by simp,fun a ha b hb e=>?_⟩
  rw [List.mem_singleton] at hb
  subst hb
  exact hd (List.mem_map.2 ⟨a,ha,e⟩)
 have hne2:u.Pairwise fun a b=>a.kind ≠ b.kind:=hp.symm.pairwise hne fun h=>Ne.symm h
 refine sortC_ext ((hle.and hne2).imp fun h=>by obtain ⟨x,y⟩:=h;omega) (insC_sort hl) fun x=>?_
 rw [hp.mem_iff,insC_mem hl,List.mem_append,List.mem_singleton]
 constructor
 ·rintro (h | rfl)
  ·exact .inr ⟨h,fun e=>hd (List.mem_map.2 ⟨x,h,e⟩)⟩
  ·exact .inl rfl
 ·rintro (rfl | h)
  ·exact .inr rfl
  ·exact .inl h.1
set_option maxRecDepth 8000 in
theorem put_yes (a:Ar) (ha:ArOK a) (hne:ArNE a.ts) (e:Ent) (c:Comp) (hn:I64 e.n) (hkl:I64 c.kind) (h12:a.kinds.length ≤ 12) (hh:hasA a e = true) {l1 l2:List Tab} {t:Tab} (hts:a.ts = l1 ++ t :: l2) (hm:(e.n,e) ∈ t.es) (hso:SortC (tComps t e.n)) (h11:(wFit a.kinds [c]).2 = 0 → c.kind ∉ t.ks → t.ks.length ≤ 11):Spec Tryz.prog 131 [.ptr a.A 0 0,entA e,compA false c] (arS a) fun r S'=>∃ b:Ar,PutR a e (tComps t e.n) c b ∧ r = iA (wFit a.kinds [c]).2 ∧ S' = arS b:=by
 have htm:t ∈ a.ts:=by rw [hts];simp
 have hto:=ha.tab t htm
 have hks:=sortC_ks hto hso
 have hnk:e.n ∈ keysC t.es:=List.mem_map.2 ⟨_,hm,rfl⟩
 have hnl:=hto.es.lt _ hnk
 have hs:=has_sp a ha e hn
 rw [hh] at hs
 have hbs:=binS_ps t.ks c.kind hks (by have:=hto.ks;omega)
 have hft:=wfit_ps a.kinds [c] h12 (by simp)
 obtain ⟨u,hgd,hone,hK⟩:=ha.ptr htm hnk
 obtain ⟨⟨fl,fe⟩,hfe⟩:∃ q,wFit a.kinds [c] = q:=⟨_,rfl⟩
 unfold PutR
 rw [hfe] at hft h11 ⊢
 dsimp only at hft h11 ⊢
 refine Spec.of (nt:=77) (res:=[.tmp 6]) Tryz.func131 rfl (by kernel_rfl) rfl rfl rfl fun Sf=>?_
 (repeat refine WF ?_);refine AWP.region ?_;(repeat (first | refine WO ?_ | refine All.i fun B=>?_ | refine AllY.i fun Y=>?_));refine AOps.nil ?_;(repeat refine WN ?_)
 rename_i Be
 (repeat first | refine AOps.nil ?_ | refine WF ?_)
 (repeat refine WF ?_);refine AWP.region ?_;(repeat (first | (refine AOps.gN ?_;first | refine AOps.u2 [_,_] (h:=hs) (k:=?_)) | refine WO ?_ | refine All.i fun X=>?_ | refine AllY.i fun Y=>?_));refine AOps.nil ?_;(repeat refine WN ?_)
 refine AWP.cond_f rfl rfl ?_
 (repeat first | refine AOps.nil ?_ | refine WF ?_)
 (repeat refine WF ?_);refine AWP.region_run (by kernel_rfl) (by kernel_rfl) ?_;(repeat (first | (refine RGo.gN ?_;first | (refine RGo.g_callf ?_;first | refine RGo.c2 (h:=(hft ..)) (k:=?_)) | (refine RGo.g_lit ?_;refine RGo.goL (compsA false false [c]) ?_) | refine RGo.go (v:=.lst false 42 2 [compA false c]) (h:=W.litF1 (v0:=compA false c) rfl rfl (.inl rfl) (by decide) (by decide) rfl) ?_) | (refine RGo.gQ ?_;first | (refine RGo.g_callf ?_;first | refine RGo.c2 (h:=(hft ..)) (k:=?_)) | (refine RGo.g_lit ?_;refine RGo.goL (compsA false false [c]) ?_) | refine RGo.go (v:=.lst false 42 2 [compA false c]) (h:=W.litF1 (v0:=compA false c) rfl rfl (.inl rfl) (by decide) (by decide) rfl) ?_) | refine RK ?_ | refine RGo.nil (by kernel_rfl) ?_))
 (repeat first | refine AOps.nil ?_ | refine WF ?_)
 (repeat refine WF ?_);refine AWP.region ?_;(repeat (first | refine WO ?_ | refine All.i fun X=>?_ | refine AllY.i fun Y=>?_));refine AOps.nil ?_;(repeat refine WN ?_)
 refine AWP.cond rfl (fun h0=>?_) (fun h0=>?_)
 ·(repeat first | refine AOps.nil ?_ | refine WF ?_)
  (repeat refine WF ?_);refine AWP.region ?_;(repeat (first | refine WO ?_ | refine All.i fun X=>?_ | refine AllY.i fun Y=>?_));refine AOps.nil ?_;(repeat refine WN ?_)
  (refine AWP.ret ?_;(repeat (first | refine inB_r ?_ | refine andThen_r ?_));refine retQ_r ?_)
  exact Ends.sp [iA fe] (arS a) ⟨a,.inl ⟨by simpa using h0,rfl⟩,rfl,rfl⟩
 have h0:fe = 0:=by simpa using h0
 subst h0
 obtain ⟨v,rfl⟩:∃ v,fl = [⟨c.kind,v⟩]:=wFit_sng hfe
 (repeat first | refine AOps.nil ?_ | refine WF ?_)
 refine AWP.perm (List.Perm.cons _ (List.Perm.cons _ (ar_front hts Sf))) ?_
 (repeat refine WF ?_);refine AWP.region_run (by kernel_rfl) (by kernel_rfl) ?_;(repeat (first | (refine RGo.gN ?_;first | refine RGo.go (h:=W.lookP (.ptr t.X 0 0) hgd hn hone hK rfl rfl (by exact At.f) (by exact At.f)) (k:=?_)) | (refine RGo.gQ ?_;first | refine RGo.go (h:=W.lookP (.ptr t.X 0 0) hgd hn hone hK rfl rfl (by exact At.f) (by exact At.f)) (k:=?_)) | refine RK ?_ | refine RGo.nil (by kernel_rfl) ?_))
 (repeat first | refine AOps.nil ?_ | refine WF ?_)
 (repeat refine WF ?_);refine AWP.region_run (by kernel_rfl) (by kernel_rfl) ?_;(repeat (first | (refine RGo.gN ?_;first | (refine RGo.g_callf ?_;first | refine RGo.c2 (h:=(hbs ..)) (k:=?_))) | (refine RGo.gQ ?_;first | (refine RGo.g_callf ?_;first | refine RGo.c2 (h:=(hbs ..)) (k:=?_))) | refine RK ?_ | refine RGo.nil (by kernel_rfl) ?_))
 (repeat first | refine AOps.nil ?_ | refine WF ?_)
 by_cases hk:c.kind ∈ t.ks
 ·rw [decide_eq_true hk]
  (repeat refine WF ?_);refine AWP.region ?_;(repeat (first | refine WO ?_ | refine All.i fun X=>?_ | refine AllY.i fun Y=>?_));refine AOps.nil ?_;(repeat refine WN ?_)
  refine AWP.cond_t rfl rfl ?_
  obtain ⟨hil,hik⟩:=lowI_mem hks hk
  obtain ⟨i,hi⟩:∃ i,lowI t.ks c.kind = i:=⟨_,rfl⟩
  have hca:compAt (tComps t e.n) c.kind = i:=by rw [← hi,← lowI_at2 hso,tComps_kinds hto]
  rw [hi] at hil ⊢
  have hic:i < t.cs.length:=by rw [← hto.len];exact hil
  obtain ⟨m1,m2,hsp,hm1⟩:=splitL_at hic
  have hcat:(t.cs.map fun c=>AV.ptr c.1.X 0 0)[i]? = some (.ptr t.cs[i].1.X 0 0):=map_at _ hic
  have hcil:i < (t.cs.map fun c=>AV.ptr c.1.X 0 0).length:=by rw [List.length_map];exact hic
  obtain ⟨col,hce⟩:∃ d,t.cs[i] = d:=⟨_,rfl⟩
  rw [hce] at hsp hcat
  have hcok:ColOK col.2:=hto.cs _ (by rw [hsp];simp)
  have hpu:=(cputS_sp col.1 col.2 hcok e.n v hnl).tt
  (repeat first | refine AOps.nil ?_ | refine WF ?_)
  (repeat refine WF ?_)
  refine AWP.region_runH (n:=8) ([(B,.row 42 2 [compA false c]),(Be,.row 32 2 [entA e])] ++ (arH a ++ [tabH t])) (stE t.ek t.es ++ (colsS t.cs ++ (tabsS l1 ++ (tabsS l2 ++ Sf)))) rfl (by kernel_rfl) (by kernel_rfl) ?_
  refine RGoH.go ?_
  refine RGoH.go ?_
  refine RGoH.go ?_
  refine RGoH.go ?_
  refine RGoH.go ?_
  refine RGoH.go (h:=W.idxL (a:=i) rfl rfl rfl hcat) ?_
  refine RGoH.go ?_
  refine RGoH.go ?_
  refine RGoH.go ?_
  refine RGoH.go ?_
  refine RGoH.go (h:=W.idxL (a:=0) (e:=compA false ⟨c.kind,v⟩) rfl rfl rfl rfl) ?_
  refine RGoH.go ?_
  refine RGoH.go ?_
  refine RGoH.skip [54,56,60] ?_
  refine RGoH.nil (by kernel_rfl) (by kernel_rfl) (by kernel_rfl) ?_
  refine HC.step [(54,.ptr col.1.X 0 0),(56,iA e.n),(60,intsA false v)] ⟨rfl,rfl,rfl,rfl,rfl,rfl,trivial⟩ fun T F=>?_
  have heq:F ++ (stE t.ek t.es ++ (colsS t.cs ++ (tabsS l1 ++ (tabsS l2 ++ Sf)))) = (F ++ (stE t.ek t.es ++ colsS m1)) ++ (stS col.1 col.2 ++ (colsS m2 ++ (tabsS l1 ++ (tabsS l2 ++ Sf)))):=by
   rw [hsp,colsS_app,colsS_cons]
   simp only [List.append_assoc]
  refine AOps.p3 _ (h:=hpu) (k:=fun q2 _=>?_) (hp:=heq)
  obtain ⟨k2,hk2⟩:∃ k2:StK,k2 = ⟨col.1.X,q2.1,q2.2,col.1.M⟩:=⟨_,rfl⟩
  have hkx:k2.X = col.1.X:=by rw [hk2]
  rw [← hk2]
  have heq2:(F ++ (stE t.ek t.es ++ colsS m1)) ++ (stS k2 (stPut col.2 e.n v) ++ (colsS m2 ++ (tabsS l1 ++ (tabsS l2 ++ Sf)))) = F ++ (stE t.ek t.es ++ (colsS (m1 ++ (k2,stPut col.2 e.n v) :: m2) ++ (tabsS l1 ++ (tabsS l2 ++ Sf)))):=by
   rw [colsS_app,colsS_cons]
   simp only [List.append_assoc]
  refine AOps.perm (List.Perm.of_eq heq2) ?_
  refine AOps.nil ⟨rfl,_,_,⟨fun d v h=>h,.refl _⟩,?_⟩
  obtain ⟨b,hb⟩:∃ b:Ar,b = { a with ts:=l1 ++ setT t m1 m2 k2 col.2 e.n v :: l2 }:=⟨_,rfl⟩
  have hbt:b.ts = l1 ++ setT t m1 m2 k2 col.2 e.n v :: l2:=by rw [hb]
  have hbl:b.ts.length = a.ts.length:=by rw [hbt,hts,List.length_append,List.length_append];rfl
  have hbp:ptrs Tab.X b.ts = ptrs Tab.X a.ts:=by rw [hbt,hts,ptrs,ptrs,List.map_append,List.map_append];rfl
  have hH:arH b = arH a:=by
   show [_,_,_,_,_] = [_,_,_,_,_]
   rw [hbl,hbp,hb]
  have hT:tabH (setT t m1 m2 k2 col.2 e.n v) = tabH t:=by
   show (t.X,AO.row _ _ [AV.agg [intsA false t.ks,_,.lst false _ _ ((m1 ++ (k2,stPut col.2 e.n v) :: m2).map fun c=>AV.ptr c.1.X 0 0)]]) = (t.X,AO.row _ _ [AV.agg [intsA false t.ks,_,.lst false _ _ (t.cs.map fun c=>AV.ptr c.1.X 0 0)]])
   rw [hsp,List.map_append,List.map_append,List.map_cons,List.map_cons,hkx]
  have hfr:=ar_front hbt Sf
  rw [hH,hT] at hfr
  show andThen _ _ _ _
  refine AWP.perm (S':=(B,.row 42 2 [compA false c]) :: (Be,.row 32 2 [entA e]) :: (arS b ++ Sf)) ?_ ?_
  ·refine List.Perm.trans (List.Perm.of_eq ?_) (List.Perm.cons _ (List.Perm.cons _ hfr.symm))
   simp only [List.cons_append,List.nil_append]
  (repeat first | refine AOps.nil ?_ | refine WF ?_)
  (repeat refine WF ?_);refine AWP.region ?_;(repeat (first | refine WO ?_ | refine All.i fun X=>?_ | refine AllY.i fun Y=>?_));refine AOps.nil ?_;(repeat refine WN ?_)
  (refine AWP.ret ?_;(repeat (first | refine inB_r ?_ | refine andThen_r ?_));refine retQ_r ?_)
  have hins:insC (tComps t e.n) ⟨c.kind,v⟩ = (tComps t e.n).set m1.length ⟨c.kind,v⟩:=by
   rw [insC_at hso,if_pos ((compOf_mem hso).2 (by rw [tComps_kinds hto];exact hk)),hca,hm1]
  have hz:t.ks[m1.length]? = some c.kind:=by rw [hm1,List.getElem?_eq_getElem hil];congr 1;simpa only [hi] using hik
  refine Ends.sp [iA 0] (arS b) ⟨b,.inr ⟨⟨c.kind,v⟩,rfl,?_⟩,rfl,rfl⟩
  rw [hins,hb]
  exact ⟨ha.setT hts hsp hnk,ne_set hne hts,rfl,rfl,rfl,_,items_down ha hts hm,items_set ha hts hsp hm hz⟩
 ·rw [decide_eq_false hk]
  (repeat refine WF ?_);refine AWP.region ?_;(repeat (first | refine WO ?_ | refine All.i fun X=>?_ | refine AllY.i fun Y=>?_));refine AOps.nil ?_;(repeat refine WN ?_)
  refine AWP.cond_f rfl rfl ?_
  (repeat first | refine AOps.nil ?_ | refine WF ?_)
  refine AWP.perm (List.Perm.cons _ (List.Perm.cons _ (ar_front hts Sf).symm)) ?_
  (repeat refine WF ?_)
  have htk:=take_sp a ha hne hts hnk
  have htl:(tComps t e.n).length = t.ks.length:=by unfold tComps;rw [List.length_map,List.length_zip];have:=hto.len;omega
  have h16:=hto.ks
  refine AWP.region_runH (n:=2) [(B,.row 42 2 [compA false c]),(Be,.row 32 2 [entA e])] (arS a ++ Sf) rfl (by kernel_rfl) (by kernel_rfl) ?_
  refine RGoH.go ?_
  refine RGoH.go ?_
  refine RGoH.go ?_
  refine RGoH.skip [62,64] ?_
  refine RGoH.go ?_
  refine RGoH.go (h:=W.idxL (a:=0) (e:=compA false ⟨c.kind,v⟩) rfl rfl rfl rfl) ?_
  refine RGoH.go ?_
  refine RGoH.go (v:=.lst false 42 2 [compA false ⟨c.kind,v⟩]) (h:=W.litF1 (v0:=compA false ⟨c.kind,v⟩) rfl rfl (.inl rfl) (by decide) (by decide) rfl) ?_
  refine RGoH.skip [65,69] ?_
  refine RGoH.skip [70] ?_
  refine RGoH.nil (by kernel_rfl) (by kernel_rfl) (by kernel_rfl) ?_
  refine HC.step [(62,.ptr a.A 0 0),(64,iA e.n)] ⟨rfl,rfl,rfl,rfl,trivial⟩ fun T F=>?_
  refine AOps.pt2 F (h:=htk) (k:=fun Y _ K=>?_)
  obtain ⟨hok,hne2,hA,hki,hge,hit⟩:=lessA_ok ha hne hts hm Y
  obtain ⟨b,hb⟩:∃ b,lessA a l1 l2 t e.n Y = b:=⟨_,rfl⟩
  rw [hb] at hok hne2 hA hki hge hit ⊢
  refine AOps.perm List.perm_middle.symm ?_
  refine AOps.nil ⟨rfl,_,_,⟨fun d v h=>h,.refl _⟩,?_⟩
  refine HC.step [(65,.sl K 0 ((tComps t e.n).map (compA false)).length),(69,.lst false 42 2 [compA false ⟨c.kind,v⟩])] ⟨rfl,rfl,rfl,rfl,trivial⟩ fun T2 F2=>?_
  refine AOps.perm List.perm_middle ?_
  refine AOps.rs fun Z=>?_
  refine AOps.goS (h:=W.app (X:=K) (Y:=Z) rfl rfl (by exact At.f) (by exact At.f) (by rw [List.length_map]) (by rw [List.length_map];show (_ + 1) * 32 ≤ _;omega) (by rw [List.length_map];unfold maxLen;show _ + 1 ≤ _;omega) (by decide)) (k:=?_)
  dsimp only [setAll,List.set_cons_zero,List.set_cons_succ]
  refine AOps.perm (List.Perm.cons _ List.perm_middle.symm) ?_
  refine AOps.nil ⟨rfl,_,_,⟨fun d v h=>h,.cons _ (.refl _)⟩,?_⟩
  refine HC.step [(70,.sl Z 0 (((tComps t e.n).map (compA false)).length + 1))] ⟨rfl,rfl,trivial⟩ fun T3 F3=>?_
  (repeat refine WO ?_)
  refine AOps.nil ⟨rfl,_,_,⟨fun d v h=>h,.refl _⟩,?_⟩
  show andThen _ _ _ _
  refine AWP.weak (st':=⟨[(0,.ptr a.A 0 0),(4,.ptr Be 0 0),(12,.sl Z 0 (((tComps t e.n).map (compA false)).length + 1))],[(Be,.row 32 2 [entA e]),(Z,.row 42 2 ((tComps t e.n).map (compA false) ++ [compA false ⟨c.kind,v⟩]))] ++ (arS b ++ Sf)⟩) ⟨.cons rfl (.cons rfl (.cons rfl .nil)),.cons _ (.refl _)⟩ ?_
  obtain ⟨cl,hcl⟩:∃ cl,tComps t e.n ++ [(⟨c.kind,v⟩:Comp)] = cl:=⟨_,rfl⟩
  have hcm:(tComps t e.n).map (compA false) ++ [compA false ⟨c.kind,v⟩] = cl.map (compA false):=by rw [← hcl,List.map_append];rfl
  have hcn:((tComps t e.n).map (compA false)).length + 1 = cl.length:=by rw [← hcl,List.length_append,List.length_map];rfl
  rw [hcm,hcn]
  obtain ⟨su,⟨hu1,hu2⟩,hsf⟩:=sortFuncC_sp 157 [] (fun x y=>cmpI x.kind y.kind) rfl (swo_key Comp.kind) (fun x y=>put1_ps x y) Z cl.length cl rfl (by have:=h11 rfl hk;rw [← hcl,List.length_append,htl];show _ + 1 ≤ 12;omega)
  (repeat first | refine AOps.nil ?_ | refine WF ?_)
  (repeat refine WF ?_);refine AWP.region ?_;(repeat (first | (refine AOps.gN ?_;first | (refine AOps.g_callf ?_;first | refine AOps.o2 (h:=(hsf ..)) (k:=?_))) | refine WO ?_ | refine All.i fun X=>?_ | refine AllY.i fun Y=>?_));refine AOps.nil ?_;(repeat refine WN ?_)
  dsimp only [setAll,List.set_cons_zero,List.set_cons_succ,List.cons_append,List.nil_append]
  rw [← hu1.length_eq]
  have hF:AV.frzs (su.map (compA false)) = su.map (compA false):=Frzs.h
  have hsl:su.length = (su.map (compA false)).length:=(List.length_map _).symm
  rw [hsl]
  refine AWP.iceL 12 _ hF ?_
  rw [← hA]
  have had:=add_sp b e su hok hne2 hnl (fresh_less ha hok hit) (by have:=h11 rfl hk;rw [hu1.length_eq,← hcl,List.length_append,htl];show _ + 1 ≤ 16;omega)
  (repeat first | refine AOps.nil ?_ | refine WF ?_)
  (repeat refine WF ?_);refine AWP.region ?_;(repeat (first | (refine AOps.gN ?_;first | refine AOps.p3 [_,_] (h:=had) (k:=fun b2 hb2=>?_)) | refine WO ?_ | refine All.i fun X=>?_ | refine AllY.i fun Y=>?_));refine AOps.nil ?_;(repeat refine WN ?_)
  (repeat first | refine AOps.nil ?_ | refine WF ?_)
  (repeat refine WF ?_);refine AWP.region ?_;(repeat (first | refine WO ?_ | refine All.i fun X=>?_ | refine AllY.i fun Y=>?_));refine AOps.nil ?_;(repeat refine WN ?_)
  (refine AWP.ret ?_;(repeat (first | refine inB_r ?_ | refine andThen_r ?_));refine retQ_r ?_)
  obtain ⟨g1,g2,g3,g4,g5,g6⟩:=hb2
  have hsu:su = insC (tComps t e.n) ⟨c.kind,v⟩:=put_sorted hso (by rw [tComps_kinds hto];exact hk) (by rw [hcl];exact hu1) hu2
  rw [hsu] at g6
  exact Ends.sp [iA 0] (arS b2) ⟨b2,.inr ⟨_,rfl,g1,g2,g3.trans hA,g4.trans hki,g5.trans hge,_,hit,g6⟩,rfl,rfl⟩
section
open Go.Sort
def dU (hi lo:UInt64):UInt64:=(hi <<< UInt64.ofNat 47) ||| (lo >>> UInt64.ofNat 17)
def dL (lo:UInt64):UInt64:=lo <<< UInt64.ofNat 47
def dR (hi lo:UInt64):UInt64:=dU hi lo * 4294967296 + (dL lo >>> UInt64.ofNat 32) - dU hi lo / 2147483648 * 9223372036854775808
end
structure Cmd where
 act:Int
 ent:Ent
 kind:Int
 comps:List Comp
def cmdA (c:Cmd):AV:=.agg [iA c.act,iA c.ent.n,iA c.ent.gen,iA c.kind,compsA false false c.comps]
instance {c:Cmd}:Frz (cmdA c) (cmdA c):=⟨by unfold cmdA;exact Frz.h⟩
def cmdOne (ks:List Kind) (c:Cmd):List Comp × Int :=
 if c.act = 0 then (if c.comps.length = 1 then wFit ks c.comps else ([],3)) else
 if c.act = 1 then (if c.kind < 0 ∨ (ks.length:Int) ≤ c.kind then ([],1) else ([],0)) else
 if c.act = 2 then ([],0) else if c.act = 3 then wFit ks c.comps else ([],1)
def cmdsErr (ks:List Kind):List Cmd → Int
 | []=>0
 | c :: l=>if (cmdOne ks c).2 = 0 then cmdsErr ks l else (cmdOne ks c).2
def cmdErr (w:Wd) (l:List Cmd):Int:=if wdErr w ≠ 0 then wdErr w else if 131072 < l.length then 2 else cmdsErr w.kinds l
theorem cmdsErr_iff {ks:List Kind}:∀ {l:List Cmd},cmdsErr ks l = 0 ↔ ∀ c ∈ l,(cmdOne ks c).2 = 0
 | []=>by simp [cmdsErr]
 | c :: l=>by
  rw [cmdsErr]
  split
  ·rename_i h
   rw [cmdsErr_iff,List.forall_mem_cons]
   exact ⟨fun g=>⟨h,g⟩,fun g=>g.2⟩
  ·rename_i h
   rw [List.forall_mem_cons]
   exact ⟨fun g=>absurd g h,fun g=>absurd g.1 h⟩
theorem cmdErr_iff {w:Wd} {l:List Cmd}:cmdErr w l = 0 ↔ WdOK w ∧ l.length ≤ 131072 ∧ ∀ c ∈ l,(cmdOne w.kinds c).2 = 0:=by
 unfold cmdErr
 split
 ·rename_i h
  exact ⟨fun e=>absurd e h,fun e=>absurd ((wdErr_iff w).2 e.1) h⟩
 ·rename_i h
  have h:wdErr w = 0:=Decidable.not_not.1 h
  split
  ·rename_i h2
   exact ⟨fun e=>(by cases e),fun e=>(by omega)⟩
  ·rename_i h2
   rw [cmdsErr_iff]
   exact ⟨fun e=>⟨(wdErr_iff w).1 h,by omega,e⟩,fun e=>e.2.2⟩
def stepW (w v:Wd) (e:Int):Wd:=if e = 0 then v else w
def actW (w:Wd) (c:Cmd):Wd × Ent × Bool :=
 if c.act = 0 then (stepW w (putOf w c.ent (c.comps.getD 0 ⟨0,[]⟩)).1 (putOf w c.ent (c.comps.getD 0 ⟨0,[]⟩)).2,⟨0,0⟩,decide ((putOf w c.ent (c.comps.getD 0 ⟨0,[]⟩)).2 = 0)) else
 if c.act = 1 then (stepW w (dropOf w c.ent c.kind).1 (dropOf w c.ent c.kind).2,⟨0,0⟩,decide ((dropOf w c.ent c.kind).2 = 0)) else
 if c.act = 2 then (stepW w (killOf w c.ent).1 (killOf w c.ent).2,⟨0,0⟩,decide ((killOf w c.ent).2 = 0)) else
 (stepW w (spawnOf w c.comps).1 (spawnOf w c.comps).2.2,(spawnOf w c.comps).2.1,decide ((spawnOf w c.comps).2.2 = 0))
def runW:Wd → List Cmd → Wd × List Ent × List Bool
 | w,[]=>(w,[],[])
 | w,c :: l=>((runW (actW w c).1 l).1,(if (actW w c).2.2 = true ∧ c.act = 3 then (actW w c).2.1 :: (runW (actW w c).1 l).2.1 else (runW (actW w c).1 l).2.1),(actW w c).2.2 :: (runW (actW w c).1 l).2.2)
theorem wFit_fits {ks:List Kind} {c:Comp} (hk:checkErr ks = 0) (h:(wFit ks [c]).2 = 0):FitOK ks c:=by
 unfold wFit at h
 rw [if_neg (by simp [hk])] at h
 split at h
 ·rename_i h1;exact absurd h h1
 ·rename_i h1
  have h1:(fitGo ks [] [] [c]).2 = 0:=Decidable.not_not.1 h1
  rw [fitGo] at h1
  split at h1
  ·cases h1
  ·rename_i g1
   rw [if_neg (by simp)] at h1
   split at h1
   ·cases h1
   ·rename_i k hk2
    split at h1
    ·rename_i g2;exact absurd h1 g2
    ·rename_i g2
     exact ⟨by omega,by omega,k,hk2,Decidable.not_not.1 g2⟩
theorem fitGo_held {ks:List Kind}:∀ {l pre out:List Comp},(fitGo ks pre out l).2 = 0 → (∀ a ∈ out,∃ k,ks[a.kind.toNat]? = some k ∧ holdsOf k a.vals = true) → ∀ a ∈ (fitGo ks pre out l).1,∃ k,ks[a.kind.toNat]? = some k ∧ holdsOf k a.vals = true
 | [],pre,out,h,h1=>h1
 | c :: l,pre,out,h,h1=>by
  rw [fitGo] at h ⊢
  split at h
  ·cases h
  ·rename_i g1
   rw [if_neg g1]
   split at h
   ·cases h
   ·rename_i g2
    rw [if_neg g2]
    split at h
    ·cases h
    ·rename_i k hk
     split at h
     ·rename_i g3;exact absurd h g3
     ·rename_i g3
      (try simp only [hk])
      rw [if_neg g3]
      refine fitGo_held h fun a ha=>?_
      rcases List.mem_append.1 ha with ha | ha
      ·exact h1 a ha
      ·rw [List.mem_singleton.1 ha]
       exact ⟨k,hk,(fitOf_holds (Decidable.not_not.1 g3)).1⟩
theorem wFit_heldOf {ks:List Kind} {l:List Comp} (h:(wFit ks l).2 = 0):heldOf ks (wFit ks l).1 = true:=by
 unfold wFit at h ⊢
 split at h
 ·rename_i h1;exact absurd h h1
 ·rename_i h1
  rw [if_neg h1]
  split at h
  ·rename_i h2;exact absurd h h2
  ·rename_i h2
   rw [if_neg h2]
   have h2:(fitGo ks [] [] l).2 = 0:=Decidable.not_not.1 h2
   obtain ⟨p1,p2⟩:=fitGo_ok h2 (fun _ h=>by cases h) .nil (fun _ h=>by cases h)
   have p3:=fitGo_held h2 (fun _ h=>by cases h)
   refine held_iff.2 ⟨kSort_strict p1,fun c hc=>?_⟩
   have hc:=(kSort_perm _).mem_iff.1 hc
   exact ⟨(p2 c hc).1,(p2 c hc).2,p3 c hc⟩
theorem actW_ok {w:Wd} (hw:WdOK w) {c:Cmd} (hc:(cmdOne w.kinds c).2 = 0):WdOK (actW w c).1 ∧ (actW w c).1.kinds = w.kinds:=by
 have hs:∀ v e,(e = 0 → WdOK v ∧ v.kinds = w.kinds) → WdOK (stepW w v e) ∧ (stepW w v e).kinds = w.kinds:=fun v e h=>by
  unfold stepW
  split
  ·rename_i h1;exact h h1
  ·exact ⟨hw,rfl⟩
 have hf:∀ e,(findE w.items e < 0) ∨ ∃ (i:Nat) (it:Item),w.items[i]? = some it ∧ it.ent = e:=fun e=>by
  by_cases hlt:findE w.items e < 0
  ·exact .inl hlt
  ·obtain ⟨m,hm⟩:∃ m:Nat,findE w.items e = m:=⟨(findE w.items e).toNat,by omega⟩
   obtain ⟨x,hx,_,rfl⟩:=findE_some hm
   exact .inr ⟨m,x,hx,rfl⟩
 unfold actW
 unfold cmdOne at hc
 split
 ·rename_i h1
  rw [if_pos h1] at hc
  split at hc
  ·rename_i h2
   obtain ⟨d,hd⟩:=List.length_eq_one_iff.1 h2
   rw [hd] at hc ⊢
   refine hs _ _ fun he=>?_
   rcases hf c.ent with h | ⟨i,it,hi,rfl'⟩
   ·exfalso
    replace he:(putOf w c.ent d).2 = 0:=he
    unfold putOf at he
    rw [if_neg (by simp [(wdErr_iff w).2 hw]),if_pos h] at he
    cases he
   ·rw [← rfl']
    have hfo:=wFit_fits hw.ks hc
    show WdOK (putOf w it.ent d).1 ∧ (putOf w it.ent d).1.kinds = _
    rw [putOf_ok hw hi hfo]
    exact ⟨put_ok hw hi hfo,rfl⟩
  ·cases hc
 ·rename_i h1
  rw [if_neg h1] at hc
  split
  ·rename_i h2
   refine hs _ _ fun he=>?_
   rcases hf c.ent with h | ⟨i,it,hi,rfl'⟩
   ·exfalso
    unfold dropOf at he
    rw [if_neg (by simp [(wdErr_iff w).2 hw]),if_pos h] at he
    cases he
   ·rw [← rfl'] at he ⊢
    rw [dropOf_ok hw hi] at he ⊢
    split at he
    ·rename_i h3
     rw [if_pos h3]
     exact ⟨setItem_ok hw hi (held_drop (hw.it it (List.mem_of_getElem? hi)).2.2.2.2),rfl⟩
    ·cases he
  ·rename_i h2
   rw [if_neg h2] at hc
   split
   ·rename_i h3
    refine hs _ _ fun he=>?_
    rcases hf c.ent with h | ⟨i,it,hi,rfl'⟩
    ·exfalso
     unfold killOf at he
     rw [if_neg (by simp [(wdErr_iff w).2 hw]),if_pos h] at he
     cases he
    ·rw [← rfl'] at he ⊢
     rw [killOf_ok hw hi]
     exact ⟨kill_ok hw hi,rfl⟩
   ·rename_i h3
    rw [if_neg h3] at hc
    split at hc
    ·refine hs _ _ fun he=>?_
     obtain ⟨cs,hcs⟩:∃ cs,wFit w.kinds c.comps = (cs,0):=⟨(wFit w.kinds c.comps).1,Prod.ext rfl hc⟩
     have hh:=wFit_heldOf hc
     rw [hcs] at hh
     cases hfr:(freeOf w).2 with
     | true =>
      rw [spawnOf_ok hw hfr hcs]
      exact ⟨spawn_ok hw hfr hh,rfl⟩
     | false =>
      exfalso
      unfold spawnOf at he
      rw [if_neg (by simp [(wdErr_iff w).2 hw]),if_neg (by simp [hc]),if_pos hfr] at he
      cases he
    ·cases hc
theorem runW_ok:∀ {l:List Cmd} {w:Wd},WdOK w → (∀ c ∈ l,(cmdOne w.kinds c).2 = 0) → WdOK (runW w l).1 ∧ (runW w l).1.kinds = w.kinds
 | [],w,hw,_=>⟨hw,rfl⟩
 | c :: l,w,hw,hc=>by
  obtain ⟨h1,h2⟩:=actW_ok hw (hc c (by simp))
  obtain ⟨h3,h4⟩:=runW_ok (l:=l) h1 fun d hd=>by rw [h2];exact hc d (by simp [hd])
  exact ⟨h3,h4.trans h2⟩
theorem runW_app:∀ (l m:List Cmd) (w:Wd),runW w (l ++ m) = ((runW (runW w l).1 m).1,(runW w l).2.1 ++ (runW (runW w l).1 m).2.1,(runW w l).2.2 ++ (runW (runW w l).1 m).2.2)
 | [],m,w=>rfl
 | c :: l,m,w=>by
  rw [List.cons_append,runW,runW,runW_app l m]
  refine Prod.ext rfl (Prod.ext ?_ rfl)
  dsimp only
  split
  ·rfl
  ·rfl
theorem freeOf_at {w:Wd} {j:Nat} (h1:∀ q < j,(!usedB w.items (q:Nat) && decide (w.gens.getD q 0 < 1073741824)) = false) (h2:j < w.gens.length) (h3:(!usedB w.items (j:Nat) && decide (w.gens.getD j 0 < 1073741824)) = true):freeOf w = (j,true):=by
 have:freeN w = some j:=by
  unfold freeN
  rw [List.find?_eq_some_iff_getElem]
  exact ⟨h3,j,by simpa using h2,by simp,fun q hq=>by have:=h1 q hq;simp only [List.getElem_range];rw [this];rfl⟩
 unfold freeOf
 rw [this]
theorem insI_perm:∀ (l:List Item) (it:Item),(insI l it).Perm (it :: l)
 | [],it=>.refl _
 | x :: l,it=>by
  rw [insI]
  split
  ·exact ((insI_perm l it).cons x).trans (.swap ..)
  ·exact .refl _
theorem freeOf_no {w:Wd} (h1:∀ q < w.gens.length,(!usedB w.items (q:Nat) && decide (w.gens.getD q 0 < 1073741824)) = false):freeOf w = (w.gens.length,decide ((w.gens.length:Int) < 256)):=by
 have:freeN w = none:=by
  unfold freeN
  rw [List.find?_eq_none]
  intro q hq
  have:=h1 q (by simpa using hq)
  rw [this];simp
 unfold freeOf
 rw [this]
set_option maxRecDepth 8000 in
theorem arSpawn_sp (a:Ar) (w:Wd) (h:ArFor a w) (h12:w.kinds.length ≤ 12) (l:List Comp) (hl:l.length ≤ 1099511627776):Spec Tryz.prog 134 [.ptr a.A 0 0,compsA false false l] (arS a) fun r S'=>∃ b:Ar,(ArFor b (stepW w (spawnOf w l).1 (spawnOf w l).2.2) ∧ b.A = a.A) ∧ r = .tup [entA (spawnOf w l).2.1,iA (spawnOf w l).2.2] ∧ S' = arS b:=by
 have hft:=wfit_ps a.kinds l (by rw [h.kinds];exact h12) hl
 obtain ⟨r,hr⟩:∃ r,spawnOf w l = r:=⟨_,rfl⟩
 rw [hr]
 unfold spawnOf at hr
 rw [if_neg (by simp [(wdErr_iff w).2 h.wok])] at hr
 rw [h.kinds] at hft
 obtain ⟨⟨cs,f⟩,hcs⟩:∃ q,wFit w.kinds l = q:=⟨_,rfl⟩
 have hheld:f = 0 → heldOf w.kinds cs = true:=fun e=>by have:=wFit_heldOf (ks:=w.kinds) (l:=l) (by rw [hcs];exact e);rwa [hcs] at this
 rw [hcs] at hr hft
 dsimp only at hr hft
 have hgl:=h.wok.gl
 rw [← h.gens] at hgl
 refine Spec.of (nt:=84) (res:=[.cell 4 32,.tmp 5]) Tryz.func134 rfl (by kernel_rfl) rfl rfl rfl fun Sf=>?_
 (repeat refine WF ?_);refine AWP.region ?_;(repeat (first | refine WO ?_ | refine All.i fun P=>?_ | refine AllY.i fun Y=>?_));refine AOps.nil ?_;(repeat refine WN ?_)
 (repeat first | refine AOps.nil ?_ | refine WF ?_)
 rw [← h.kinds] at hft
 (repeat refine WF ?_);refine AWP.region ?_;(repeat (first | (refine AOps.gN ?_;first | (refine AOps.g_callf ?_;first | refine AOps.c2 (h:=(hft ..)) (k:=?_))) | refine WO ?_ | refine All.i fun X=>?_ | refine AllY.i fun Y=>?_));refine AOps.nil ?_;(repeat refine WN ?_)
 (repeat first | refine AOps.nil ?_ | refine WF ?_)
 (repeat refine WF ?_);refine AWP.region ?_;(repeat (first | refine WO ?_ | refine All.i fun X=>?_ | refine AllY.i fun Y=>?_));refine AOps.nil ?_;(repeat refine WN ?_)
 by_cases hf:f ≠ 0
 ·rw [if_pos hf] at hr
  subst hr
  refine AWP.cond_t rfl (decide_eq_true hf) ?_
  (repeat first | refine AOps.nil ?_ | refine WF ?_)
  (repeat refine WF ?_);refine AWP.region ?_;(repeat (first | refine WO ?_ | refine All.i fun X=>?_ | refine AllY.i fun Y=>?_));refine AOps.nil ?_;(repeat refine WN ?_)
  (refine AWP.ret ?_;(repeat (first | refine inB_r ?_ | refine andThen_r ?_));refine retQ_r ?_)
  exact Ends.sp [entA ⟨0,0⟩,iA f] (arS a) ⟨a,⟨by unfold stepW;rw [if_neg hf];exact h,rfl⟩,rfl,rfl⟩
 have hf:f = 0:=Decidable.not_not.1 hf
 subst hf
 rw [if_neg (by simp)] at hr
 refine AWP.cond_f rfl rfl ?_
 (repeat first | refine AOps.nil ?_ | refine WF ?_)
 (repeat refine WF ?_);refine AWP.region ?_;(repeat (first | refine WO ?_ | refine All.i fun X=>?_ | refine AllY.i fun Y=>?_));refine AOps.nil ?_;(repeat refine WN ?_)
 (repeat first | refine AOps.nil ?_ | refine WF ?_)
 refine AWP.lp (fun (j:Nat)=>⟨[(0,.ptr a.A 0 0),(4,.ptr P 0 0),(6,compsA false false cs),(8,iA j)],(P,.row 32 2 [entA ⟨0,0⟩]) :: (arS a ++ Sf)⟩) (fun j=>j ≤ a.gens.length ∧ ∀ q < j,(!usedB w.items (q:Nat) && decide (w.gens.getD q 0 < 1073741824)) = false) (fun j=>a.gens.length - j) 0 ⟨Nat.zero_le _,fun q hq=>absurd hq (by omega)⟩ ?_
 rintro j ⟨hj,hall⟩
 have hjI:I64 (j:Int):=by constructor <;> omega
 by_cases hjl:j < a.gens.length
 ·have hd:decide ((j:Int) < (a.gens.length:Nat)) = true:=decide_eq_true (by omega)
  have hat:(a.gens.map iA)[j]? = some (iA a.gens[j]):=map_at _ hjl
  have hmem:=h.wok.gs a.gens[j] (by rw [← h.gens];exact List.getElem_mem hjl)
  have hgd:w.gens.getD j 0 = a.gens[j]:=by rw [← h.gens,List.getD_eq_getElem?_getD,List.getElem?_eq_getElem hjl];rfl
  have hus:=h.used j
  have hus0:a.g j = none → ¬ a.gens[j] = 1073741824 → freeOf w = (j,true):=fun e1 e2=>by
   refine freeOf_at hall (by rw [← h.gens];exact hjl) ?_
   rw [← hus,e1,hgd,decide_eq_true (by omega)]
   rfl
  cases hg:a.g j with
  | none =>
   have hgp:(a.g j).getD (.pointer none) = .pointer none:=by rw [hg];rfl
   (repeat refine WF ?_);refine AWP.region ?_;(repeat (first | (refine AOps.gN ?_;first | refine AOps.go (h:=W.look1 _ hgp hjI rfl rfl (by exact At.f)) (k:=?_) | refine AOps.go (h:=W.neNil false (.inl ⟨rfl,rfl⟩) rfl rfl) (k:=?_)) | refine WO ?_ | refine All.i fun X=>?_ | refine AllY.i fun Y=>?_));refine AOps.nil ?_;(repeat refine WN ?_)
   refine AWP.cond rfl (fun hc=>?_) (fun hc=>?_)
   ·have hc:a.gens[j] = 1073741824:=of_decide_eq_true hc
    (repeat first | refine AOps.nil ?_ | refine WF ?_)
    (repeat refine WF ?_);refine AWP.region ?_;(repeat (first | refine WO ?_ | refine All.i fun X=>?_ | refine AllY.i fun Y=>?_));refine AOps.nil ?_;(repeat refine WN ?_)
    refine lp_next (j + 1) ⟨by omega,fun q hq=>?_⟩ (by omega)
    by_cases hqj:q = j
    ·subst hqj
     rw [hgd,hc];simp
    ·exact hall q (by omega)
   ·have hc:¬ a.gens[j] = 1073741824:=of_decide_eq_false hc
    have hfr:=hus0 hg hc
    obtain ⟨f1,f2,f3,f4⟩:=free_facts h.wok (by rw [hfr])
    have hv:=spawn_ok h.wok (by rw [hfr]) (hheld rfl)
    rw [hfr] at hr f1 f2 f3 f4 hv
    dsimp only at hr f1 f2 f3 f4 hv
    rw [if_neg (by simp)] at hr
    have hgz:a.gens = growG w.gens j:=by unfold growG;rw [if_neg (by rw [← h.gens];omega),h.gens]
    obtain ⟨g,hge⟩:∃ g,(growG w.gens j).getD j 0 = g:=⟨_,rfl⟩
    rw [hge] at hr hv
    have hge:a.gens[j] = g:=by rw [← hge,← hgz,List.getD_eq_getElem?_getD,List.getElem?_eq_getElem hjl];rfl
    rw [hge] at hat
    subst hr
    have hfk:((j:Nat):Int) ∉ tKeys a.ts:=fun hm=>by
     rw [h.ok.keys_items] at hm
     obtain ⟨x,hx,e⟩:=List.mem_map.1 hm
     exact f2 x (h.items.mem_iff.1 hx) e
    have had:=add_sp a ⟨(j:Nat),g⟩ cs h.ok h.ne (by dsimp only;omega) hfk (held_small h.wok.ks (hheld rfl)).1
    have hd2:decide ((j:Int) = 256) = false:=decide_eq_false (by omega)
    have hd3:decide ((j:Int) = (a.gens.length:Nat)) = false:=decide_eq_false (by omega)
    (repeat first | refine AOps.nil ?_ | refine WF ?_)
    (repeat refine WF ?_);refine AWP.region ?_;(repeat (first | refine WO ?_ | refine All.i fun X=>?_ | refine AllY.i fun Y=>?_));refine AOps.nil ?_;(repeat refine WN ?_)
    refine AWP.cond_f rfl hd2 ?_
    (repeat first | refine AOps.nil ?_ | refine WF ?_)
    (repeat refine WF ?_);refine AWP.region ?_;(repeat (first | refine WO ?_ | refine All.i fun X=>?_ | refine AllY.i fun Y=>?_));refine AOps.nil ?_;(repeat refine WN ?_)
    refine AWP.cond_f rfl hd3 ?_
    (repeat first | refine AOps.nil ?_ | refine WF ?_)
    (repeat refine WF ?_);refine AWP.region ?_;(repeat (first | refine WO ?_ | refine All.i fun E=>?_ | refine AllY.i fun Y=>?_));refine AOps.nil ?_;(repeat refine WN ?_)
    (repeat first | refine AOps.nil ?_ | refine WF ?_)
    (repeat refine WF ?_);refine AWP.region ?_;(repeat (first | (refine AOps.gN ?_;first | refine AOps.p3 [_,_] (h:=had) (k:=fun b2 hb2=>?_)) | refine WO ?_ | refine All.i fun X=>?_ | refine AllY.i fun Y=>?_));refine AOps.nil ?_;(repeat refine WN ?_)
    (repeat first | refine AOps.nil ?_ | refine WF ?_)
    (repeat refine WF ?_);refine AWP.region ?_;(repeat (first | refine WO ?_ | refine All.i fun X=>?_ | refine AllY.i fun Y=>?_));refine AOps.nil ?_;(repeat refine WN ?_)
    (refine AWP.ret ?_;(repeat (first | refine inB_r ?_ | refine andThen_r ?_));refine retQ_r ?_)
    obtain ⟨q1,q2,q3,q4,q5,q6⟩:=hb2
    exact Ends.sp [entA ⟨(j:Nat),g⟩,iA 0] (arS b2) ⟨b2,⟨⟨q1,q2,q4.trans h.kinds,q5.trans hgz,q6.trans ((h.items.cons _).trans (insI_perm _ _).symm),hv⟩,q3⟩,rfl,rfl⟩
  | some u =>
   have hgp:(a.g j).getD (.pointer none) = u:=by rw [hg];rfl
   obtain ⟨t,ht,htn,hK,b,hb⟩:=h.ok.g j u hg
   have hone:u.oneCell' = true:=by rw [hb];rfl
   (repeat refine WF ?_);refine AWP.region ?_;(repeat (first | (refine AOps.gN ?_;first | refine AOps.go (h:=W.look1 _ hgp hjI rfl rfl (by exact At.f) hone) (k:=?_) | refine AOps.go (h:=W.neNil true (.inr ⟨b,hb,rfl⟩) rfl rfl) (k:=?_)) | refine WO ?_ | refine All.i fun X=>?_ | refine AllY.i fun Y=>?_));refine AOps.nil ?_;(repeat refine WN ?_)
   refine AWP.cond_t rfl rfl ?_
   (repeat first | refine AOps.nil ?_ | refine WF ?_)
   (repeat refine WF ?_);refine AWP.region ?_;(repeat (first | refine WO ?_ | refine All.i fun X=>?_ | refine AllY.i fun Y=>?_));refine AOps.nil ?_;(repeat refine WN ?_)
   refine lp_next (j + 1) ⟨by omega,fun q hq=>?_⟩ (by omega)
   by_cases hqj:q = j
   ·subst hqj
    rw [← hus,hg];rfl
   ·exact hall q (by omega)
 ·have hjl:j = a.gens.length:=by omega
  have hd:decide ((j:Int) < (a.gens.length:Nat)) = false:=decide_eq_false (by omega)
  have hfr:=freeOf_no (w:=w) fun q hq=>hall q (by rw [hjl,h.gens];exact hq)
  rw [← h.gens,← hjl] at hfr
  (repeat refine WF ?_);refine AWP.region ?_;(repeat (first | (refine AOps.gQ ?_;first | refine AOps.goNU ?_ | refine AOps.goNV ?_) | refine WO ?_ | refine All.i fun X=>?_ | refine AllY.i fun Y=>?_));refine AOps.nil ?_;(repeat refine WN ?_)
  refine AWP.cond_f rfl rfl ?_
  (repeat first | refine AOps.nil ?_ | refine WF ?_)
  (repeat refine WF ?_);refine AWP.region ?_;(repeat (first | refine WO ?_ | refine All.i fun X=>?_ | refine AllY.i fun Y=>?_));refine AOps.nil ?_;(repeat refine WN ?_)
  refine AWP.cond rfl (fun hc=>?_) (fun hc=>?_)
  ·have hc:(j:Int) = 256:=of_decide_eq_true hc
   rw [hfr,if_pos (decide_eq_false (by omega))] at hr
   subst hr
   (repeat first | refine AOps.nil ?_ | refine WF ?_)
   (repeat refine WF ?_);refine AWP.region ?_;(repeat (first | refine WO ?_ | refine All.i fun X=>?_ | refine AllY.i fun Y=>?_));refine AOps.nil ?_;(repeat refine WN ?_)
   (refine AWP.ret ?_;(repeat (first | refine inB_r ?_ | refine andThen_r ?_));refine retQ_r ?_)
   exact Ends.sp [entA ⟨0,0⟩,iA 6] (arS a) ⟨a,⟨h,rfl⟩,rfl,rfl⟩
  ·have hc:¬ (j:Int) = 256:=of_decide_eq_false hc
   have hfr:freeOf w = (j,true):=by rw [hfr,decide_eq_true (by omega)]
   obtain ⟨f1,f2,f3,f4⟩:=free_facts h.wok (by rw [hfr])
   have hv:=spawn_ok h.wok (by rw [hfr]) (hheld rfl)
   rw [hfr] at hr f1 f2 f3 f4 hv
   dsimp only at hr f1 f2 f3 f4 hv
   rw [if_neg (by simp)] at hr
   have hgr:growG w.gens j = a.gens ++ [0]:=by unfold growG;rw [if_pos (by rw [← h.gens];exact hjl),h.gens]
   obtain ⟨g,hge⟩:∃ g,(growG w.gens j).getD j 0 = g:=⟨_,rfl⟩
   rw [hge] at hr hv
   have hge:g = 0:=by rw [← hge,hgr,hjl,List.getD_eq_getElem?_getD];simp
   subst hge
   subst hr
   have hd3:decide ((j:Int) = (a.gens.length:Nat)) = true:=decide_eq_true (by omega)
   (repeat first | refine AOps.nil ?_ | refine WF ?_)
   (repeat refine WF ?_);refine AWP.region ?_;(repeat (first | refine WO ?_ | refine All.i fun X=>?_ | refine AllY.i fun Y=>?_));refine AOps.nil ?_;(repeat refine WN ?_)
   refine AWP.cond_t rfl hd3 ?_
   (repeat first | refine AOps.nil ?_ | refine WF ?_)
   (repeat refine WF ?_);refine AWP.region ?_;(repeat (first | (refine AOps.gN ?_;first | (refine AOps.g_lit ?_;refine AOps.goL (iA 0) ?_)) | refine WO ?_ | refine All.i fun X=>?_ | refine AllY.i fun Y=>?_))
   dsimp only [setAll,List.set_cons_zero,List.set_cons_succ,List.cons_append,List.nil_append]
   refine AOps.nil ?_
   (repeat first | refine AOps.nil ?_ | refine WF ?_)
   have hm1:a.gens.map iA ++ [iA 0] = (a.gens ++ [0]).map iA:=by rw [List.map_append];rfl
   have hm2:a.gens.length + [iA 0].length = (a.gens ++ [0]).length:=by rw [List.length_append];rfl
   rw [hm1,hm2]
   obtain ⟨z,hz⟩:∃ z:Ar,z = { a with G:=Y,gens:=a.gens ++ [0] }:=⟨_,rfl⟩
   have hzA:z.A = a.A:=by rw [hz]
   have hzg:z.gens = a.gens ++ [0]:=by rw [hz]
   have hzt:z.ts = a.ts:=by rw [hz]
   have hzo:ArOK z:=by rw [hz];exact ⟨h.ok.tab,h.ok.ord,h.ok.keys,h.ok.ent,h.ok.g,h.ok.gn,h.ok.cnt⟩
   refine AWP.weak (st':=⟨[(0,.ptr a.A 0 0),(4,.ptr P 0 0),(6,compsA false false cs),(8,iA j)],(P,.row 32 2 [entA ⟨0,0⟩]) :: (arS z ++ Sf)⟩) ⟨by exact Lk.f,?_⟩ ?_
   ·rw [hz]
    simp only [arS,List.cons_append,List.nil_append]
    exact List.Sublist.refl _
   have hat:(z.gens.map iA)[j]? = some (iA 0):=by rw [hzg,List.getElem?_map,hjl];simp
   have hjz:j < z.gens.length:=by rw [hzg,List.length_append,hjl];show a.gens.length < _ + 1;omega
   have hfk:((j:Nat):Int) ∉ tKeys z.ts:=fun hm=>by
    rw [hzt,h.ok.keys_items] at hm
    obtain ⟨x,hx,e⟩:=List.mem_map.1 hm
    exact f2 x (h.items.mem_iff.1 hx) e
   have had:=add_sp z ⟨(j:Nat),0⟩ cs hzo (by rw [hzt];exact h.ne) (by dsimp only;omega) hfk (held_small h.wok.ks (hheld rfl)).1
   rw [hzt] at had
   rw [← hzA]
   (repeat refine WF ?_);refine AWP.region ?_;(repeat (first | refine WO ?_ | refine All.i fun E=>?_ | refine AllY.i fun Y=>?_));refine AOps.nil ?_;(repeat refine WN ?_)
   (repeat first | refine AOps.nil ?_ | refine WF ?_)
   (repeat refine WF ?_);refine AWP.region ?_;(repeat (first | (refine AOps.gN ?_;first | refine AOps.p3 [_,_] (h:=had) (k:=fun b2 hb2=>?_)) | refine WO ?_ | refine All.i fun X=>?_ | refine AllY.i fun Y=>?_));refine AOps.nil ?_;(repeat refine WN ?_)
   (repeat first | refine AOps.nil ?_ | refine WF ?_)
   (repeat refine WF ?_);refine AWP.region ?_;(repeat (first | refine WO ?_ | refine All.i fun X=>?_ | refine AllY.i fun Y=>?_));refine AOps.nil ?_;(repeat refine WN ?_)
   (refine AWP.ret ?_;(repeat (first | refine inB_r ?_ | refine andThen_r ?_));refine retQ_r ?_)
   obtain ⟨q1,q2,q3,q4,q5,q6⟩:=hb2
   exact Ends.sp [entA ⟨(j:Nat),0⟩,iA 0] (arS b2) ⟨b2,⟨⟨q1,q2,(q4.trans (by rw [hz])).trans h.kinds,(q5.trans hzg).trans hgr.symm,q6.trans ((h.items.cons _).trans (insI_perm _ _).symm),hv⟩,q3⟩,rfl,rfl⟩
section
section
variable {a:Ar} {w:Wd}
theorem findE_of {e:Ent} {l:List Comp} {i:Nat} (hw:WdOK w) (hi:w.items[i]? = some ⟨e,l⟩):findE w.items e = i:=findE_at hw.so hi
theorem putW_sp (h:ArFor a w) (h12:w.kinds.length ≤ 12) (e:Ent) (c:Comp) (hn:I64 e.n) (hk:I64 c.kind):Spec Tryz.prog 131 [.ptr a.A 0 0,entA e,compA false c] (arS a) fun r S'=>∃ b:Ar,(ArFor b (stepW w (putOf w e c).1 (putOf w e c).2) ∧ b.A = a.A) ∧ r = iA (putOf w e c).2 ∧ S' = arS b:=by
 have hwe:=(wdErr_iff w).2 h.wok
 cases hh:hasA a e with
 | false =>
  have hf:=h.hasE hh
  have hp:putOf w e c = (⟨[],[],[]⟩,4):=by unfold putOf;rw [if_neg (by simp [hwe]),if_pos hf]
  rw [hp]
  exact (put_no a h.ok e c hn hh).mono fun r S' ⟨e1,e2⟩=>⟨a,⟨h,rfl⟩,e1,e2⟩
 | true =>
  obtain ⟨l1,l2,t,hts,hm⟩:=hasA_at h.ok hh
  have htm:t ∈ a.ts:=by rw [hts];simp
  obtain ⟨i,hi⟩:=h.item htm hm
  have hso:=h.sort htm hm
  have hhe:=h.held htm hm
  have hfi:=findE_of h.wok hi
  have hto:=h.ok.tab t htm
  have h11:(wFit a.kinds [c]).2 = 0 → c.kind ∉ t.ks → t.ks.length ≤ 11:=fun e1 e2=>by
   obtain ⟨d,_,_,g1,g2⟩:=wFit_sing e1
   rw [h.kinds] at g2
   have h1:(c.kind :: t.ks).length ≤ w.kinds.length:=nodup_le (fun x=>x) _ _ (List.pairwise_cons.2 ⟨fun x hx e=>e2 (by subst e;exact hx),(sortC_ks hto hso).imp fun h=>by omega⟩) fun x hx=>by
    rcases List.mem_cons.1 hx with rfl | hx
    ·exact ⟨g1,g2⟩
    ·rw [← tComps_kinds hto e.n] at hx
     obtain ⟨d,hd,rfl⟩:=List.mem_map.1 hx
     have:=(held_iff.1 hhe).2 d hd
     exact ⟨this.1,this.2.1⟩
   rw [List.length_cons] at h1
   omega
  refine (put_yes a h.ok h.ne e c hn hk (by rw [h.kinds];exact h12) hh hts hm hso h11).mono fun r S' ⟨b,hb,e1,e2⟩=>?_
  unfold PutR at hb
  rw [h.kinds] at hb e1
  rcases hb with ⟨hne,rfl⟩ | ⟨d,hd,hs⟩
  ·have hp:putOf w e c = (⟨[],[],[]⟩,(wFit w.kinds [c]).2):=by unfold putOf;rw [if_neg (by simp [hwe]),hfi,if_neg (by omega),if_pos hne]
   rw [hp]
   exact ⟨b,⟨by unfold stepW;rw [if_neg hne];exact h,rfl⟩,e1,e2⟩
  ·have hp:putOf w e c = (setItem w i (insC (tComps t e.n) d),0):=by unfold putOf;rw [if_neg (by simp [hwe]),hfi,if_neg (by omega),hd,if_neg (by simp),Int.toNat_natCast,hi]
   rw [hd] at e1
   rw [hp]
   have hfo:=wFit_fits h.wok.ks (by rw [hd])
   have hdc:=wFit_one h.wok.ks hfo
   rw [hd] at hdc
   injection hdc with hdc
   injection hdc with hdc
   have hpo:=put_ok h.wok hi hfo
   have hhl:heldOf w.kinds (insC (tComps t e.n) d) = true:=by
    rw [hdc]
    have hii:(setItem w i (insC (tComps t e.n) (fitC w.kinds c))).items[i]? = some ⟨e,insC (tComps t e.n) (fitC w.kinds c)⟩:=by
     rw [setItem_at hi]
     exact List.getElem?_set_self (List.getElem?_eq_some_iff.1 hi).1
    exact (hpo.it _ (List.mem_of_getElem? hii)).2.2.2.2
   exact ⟨b,⟨h.swap hs hi hhl,hs.A⟩,e1,e2⟩
theorem dropW_sp (h:ArFor a w) (e:Ent) (k:Int) (hn:I64 e.n) (hk:I64 k):Spec Tryz.prog 132 [.ptr a.A 0 0,entA e,iA k] (arS a) fun r S'=>∃ b:Ar,(ArFor b (stepW w (dropOf w e k).1 (dropOf w e k).2) ∧ b.A = a.A) ∧ r = iA (dropOf w e k).2 ∧ S' = arS b:=by
 have hwe:=(wdErr_iff w).2 h.wok
 cases hh:hasA a e with
 | false =>
  have hf:=h.hasE hh
  have hp:dropOf w e k = (⟨[],[],[]⟩,4):=by unfold dropOf;rw [if_neg (by simp [hwe]),if_pos hf]
  rw [hp]
  exact (dropK_no a h.ok e k hn hh).mono fun r S' ⟨e1,e2⟩=>⟨a,⟨h,rfl⟩,e1,e2⟩
 | true =>
  obtain ⟨l1,l2,t,hts,hm⟩:=hasA_at h.ok hh
  have htm:t ∈ a.ts:=by rw [hts];simp
  obtain ⟨i,hi⟩:=h.item htm hm
  have hso:=h.sort htm hm
  have hhe:=h.held htm hm
  have hto:=h.ok.tab t htm
  have hp:=dropOf_ok h.wok hi k
  dsimp only at hp
  have hcm:(compOf (tComps t e.n) k).isSome = true ↔ k ∈ t.ks:=by rw [compOf_mem hso,tComps_kinds hto]
  refine (dropK_yes a h.ok h.ne e k hn hk hh hts hm (sortC_ks hto hso)).mono fun r S' ⟨b,hb,e1,e2⟩=>?_
  by_cases hkm:k ∈ t.ks
  ·have hcs:=hcm.2 hkm
   rw [if_pos hkm] at hb e1
   rw [if_pos hcs] at hp
   rw [hp]
   have hl:lowI t.ks k = compAt (tComps t e.n) k:=by rw [← lowI_at2 hso,tComps_kinds hto]
   rw [hl,← dropC_at hso hcs] at hb
   exact ⟨b,⟨h.swap hb hi (held_drop hhe),hb.A⟩,e1,e2⟩
  ·rw [if_neg hkm] at hb e1
   rw [if_neg fun e=>hkm (hcm.1 e)] at hp
   rw [hp]
   subst hb
   exact ⟨b,⟨h,rfl⟩,e1,e2⟩
theorem killW_sp (h:ArFor a w) (e:Ent) (hn:I64 e.n):Spec Tryz.prog 133 [.ptr a.A 0 0,entA e] (arS a) fun r S'=>∃ b:Ar,(ArFor b (stepW w (killOf w e).1 (killOf w e).2) ∧ b.A = a.A) ∧ r = iA (killOf w e).2 ∧ S' = arS b:=by
 have hwe:=(wdErr_iff w).2 h.wok
 cases hh:hasA a e with
 | false =>
  have hf:=h.hasE hh
  have hp:killOf w e = (⟨[],[],[]⟩,4):=by unfold killOf;rw [if_neg (by simp [hwe]),if_pos hf]
  rw [hp]
  exact (kill_no a h.ok e hn hh).mono fun r S' ⟨e1,e2⟩=>⟨a,⟨h,rfl⟩,e1,e2⟩
 | true =>
  obtain ⟨l1,l2,t,hts,hm⟩:=hasA_at h.ok hh
  have htm:t ∈ a.ts:=by rw [hts];simp
  obtain ⟨i,hi⟩:=h.item htm hm
  have hit:=h.wok.it _ (List.mem_of_getElem? hi)
  dsimp only at hit
  refine (kill_yes a h.ok h.ne e hn hh (by rw [h.gens];omega) (by rw [h.gens];exact h.wok.gl) (by rw [h.gens];exact h.wok.gs)).mono fun r S' ⟨b,hb,e1,e2⟩=>?_
  obtain ⟨g1,g2⟩:=h.kill hb hh
  rw [g1]
  exact ⟨b,⟨g2,hb.A⟩,e1,e2⟩
end
end
abbrev cmdsA (b:Bool) (l:List Cmd):AV:=.lst b 57 5 (l.map cmdA)
theorem cmdOne_ps (ks:List Kind) (c:Cmd) (h12:ks.length ≤ 12) (hl:c.comps.length ≤ 1099511627776):PS Tryz.prog 104 [kindsA false false ks,cmdA c] (.tup [compsA false false (cmdOne ks c).1,iA (cmdOne ks c).2]):=by
 have hft:=wfit_ps ks c.comps h12 hl
 obtain ⟨act,ent,kind,comps⟩:=c
 dsimp only at hft hl
 obtain ⟨r,hr⟩:∃ r,cmdOne ks ⟨act,ent,kind,comps⟩ = r:=⟨_,rfl⟩
 rw [hr]
 unfold cmdOne at hr
 dsimp only at hr
 refine Spec.of (nt:=42) (res:=[.tmp 4,.tmp 5]) Tryz.func104 rfl (by kernel_rfl) rfl rfl rfl fun Sf=>?_
 have hlm:(comps.map (compA false)).length = comps.length:=List.length_map _
 have hkm:(ks.map (kindA false)).length = ks.length:=List.length_map _
 (repeat refine WF ?_);refine AWP.region ?_;(repeat (first | refine WO ?_ | refine All.i fun B=>?_ | refine AllY.i fun Y=>?_));refine AOps.nil ?_;(repeat refine WN ?_)
 (repeat first | refine AOps.nil ?_ | refine WF ?_)
 (repeat refine WF ?_);refine AWP.region ?_;(repeat (first | refine WO ?_ | refine All.i fun X=>?_ | refine AllY.i fun Y=>?_));refine AOps.nil ?_;(repeat refine WN ?_)
 (repeat first | refine AOps.nil ?_ | refine WF ?_)
 (repeat refine WF ?_);refine AWP.region ?_;(repeat (first | refine WO ?_ | refine All.i fun X=>?_ | refine AllY.i fun Y=>?_));refine AOps.nil ?_;(repeat refine WN ?_)
 refine AWP.cond rfl (fun h0=>?_) (fun h0=>?_)
 ·rw [if_pos (of_decide_eq_true h0)] at hr
  (repeat first | refine AOps.nil ?_ | refine WF ?_)
  (repeat refine WF ?_);refine AWP.region ?_;(repeat (first | refine WO ?_ | refine All.i fun X=>?_ | refine AllY.i fun Y=>?_));refine AOps.nil ?_;(repeat refine WN ?_)
  refine AWP.cond rfl (fun h1=>?_) (fun h1=>?_)
  ·have h1:((comps.map (compA false)).length:Int) ≠ 1:=of_decide_eq_true h1
   rw [if_neg (by omega)] at hr
   subst hr
   (repeat first | refine AOps.nil ?_ | refine WF ?_)
   (repeat refine WF ?_);refine AWP.region ?_;(repeat (first | refine WO ?_ | refine All.i fun X=>?_ | refine AllY.i fun Y=>?_));refine AOps.nil ?_;(repeat refine WN ?_)
   (refine AWP.ret ?_;(repeat (first | refine inB_r ?_ | refine andThen_r ?_));refine retQ_r ?_)
   exact Ends.cv [.prim (.slice none 0 0),iA 3] [compsA false false [],iA 3] (.cons (.cell .nil) (.cons (.cell .same) .nil))
  ·have h1:¬ ((comps.map (compA false)).length:Int) ≠ 1:=of_decide_eq_false h1
   rw [if_pos (by omega)] at hr
   subst hr
   (repeat first | refine AOps.nil ?_ | refine WF ?_)
   (repeat refine WF ?_);refine AWP.region ?_;(repeat (first | (refine AOps.gN ?_;first | (refine AOps.g_callf ?_;first | refine AOps.c2 (h:=(hft ..)) (k:=?_))) | refine WO ?_ | refine All.i fun X=>?_ | refine AllY.i fun Y=>?_));refine AOps.nil ?_;(repeat refine WN ?_)
   (refine AWP.ret ?_;(repeat (first | refine inB_r ?_ | refine andThen_r ?_));refine retQ_r ?_)
   exact Ends.id (rs:=[compsA false false (wFit ks comps).1,iA (wFit ks comps).2]) rfl
 rw [if_neg (of_decide_eq_false h0)] at hr
 (repeat first | refine AOps.nil ?_ | refine WF ?_)
 (repeat refine WF ?_);refine AWP.region ?_;(repeat (first | refine WO ?_ | refine All.i fun X=>?_ | refine AllY.i fun Y=>?_));refine AOps.nil ?_;(repeat refine WN ?_)
 refine AWP.cond rfl (fun h1=>?_) (fun h1=>?_)
 ·rw [if_pos (of_decide_eq_true h1)] at hr
  (repeat first | refine AOps.nil ?_ | refine WF ?_)
  cases g1:decide (kind < 0) with
  | true =>
   rw [if_pos (.inl (of_decide_eq_true g1))] at hr
   subst hr
   (repeat refine WF ?_);refine AWP.region ?_;(repeat (first | refine WO ?_ | refine All.i fun X=>?_ | refine AllY.i fun Y=>?_));refine AOps.nil ?_;(repeat refine WN ?_)
   refine AWP.cond_t rfl (by first | rfl | assumption) ?_
   (repeat first | refine AOps.nil ?_ | refine WF ?_)
   (repeat refine WF ?_);refine AWP.region ?_;(repeat (first | refine WO ?_ | refine All.i fun X=>?_ | refine AllY.i fun Y=>?_));refine AOps.nil ?_;(repeat refine WN ?_)
   (refine AWP.ret ?_;(repeat (first | refine inB_r ?_ | refine andThen_r ?_));refine retQ_r ?_)
   exact Ends.cv [.prim (.slice none 0 0),iA 1] [compsA false false [],iA 1] (.cons (.cell .nil) (.cons (.cell .same) .nil))
  | false =>
   (repeat refine WF ?_);refine AWP.region ?_;(repeat (first | refine WO ?_ | refine All.i fun X=>?_ | refine AllY.i fun Y=>?_));refine AOps.nil ?_;(repeat refine WN ?_)
   refine AWP.cond rfl (fun g2=>?_) (fun g2=>?_)
   ·rw [hkm] at g2
    rw [if_pos (.inr (of_decide_eq_true g2))] at hr
    subst hr
    (repeat first | refine AOps.nil ?_ | refine WF ?_)
    (repeat refine WF ?_);refine AWP.region ?_;(repeat (first | refine WO ?_ | refine All.i fun X=>?_ | refine AllY.i fun Y=>?_));refine AOps.nil ?_;(repeat refine WN ?_)
    (refine AWP.ret ?_;(repeat (first | refine inB_r ?_ | refine andThen_r ?_));refine retQ_r ?_)
    exact Ends.cv [.prim (.slice none 0 0),iA 1] [compsA false false [],iA 1] (.cons (.cell .nil) (.cons (.cell .same) .nil))
   ·rw [hkm] at g2
    have g1:=of_decide_eq_false g1
    have g2:¬ (ks.length:Int) ≤ kind:=of_decide_eq_false g2
    rw [if_neg (by omega)] at hr
    subst hr
    (repeat first | refine AOps.nil ?_ | refine WF ?_)
    (repeat refine WF ?_);refine AWP.region ?_;(repeat (first | refine WO ?_ | refine All.i fun X=>?_ | refine AllY.i fun Y=>?_));refine AOps.nil ?_;(repeat refine WN ?_)
    (refine AWP.ret ?_;(repeat (first | refine inB_r ?_ | refine andThen_r ?_));refine retQ_r ?_)
    exact Ends.cv [.prim (.slice none 0 0),iA 0] [compsA false false [],iA 0] (.cons (.cell .nil) (.cons (.cell .same) .nil))
 rw [if_neg (of_decide_eq_false h1)] at hr
 (repeat first | refine AOps.nil ?_ | refine WF ?_)
 (repeat refine WF ?_);refine AWP.region ?_;(repeat (first | refine WO ?_ | refine All.i fun X=>?_ | refine AllY.i fun Y=>?_));refine AOps.nil ?_;(repeat refine WN ?_)
 refine AWP.cond rfl (fun h2=>?_) (fun h2=>?_)
 ·rw [if_pos (of_decide_eq_true h2)] at hr
  subst hr
  (repeat first | refine AOps.nil ?_ | refine WF ?_)
  (repeat refine WF ?_);refine AWP.region ?_;(repeat (first | refine WO ?_ | refine All.i fun X=>?_ | refine AllY.i fun Y=>?_));refine AOps.nil ?_;(repeat refine WN ?_)
  (refine AWP.ret ?_;(repeat (first | refine inB_r ?_ | refine andThen_r ?_));refine retQ_r ?_)
  exact Ends.cv [.prim (.slice none 0 0),iA 0] [compsA false false [],iA 0] (.cons (.cell .nil) (.cons (.cell .same) .nil))
 rw [if_neg (of_decide_eq_false h2)] at hr
 (repeat first | refine AOps.nil ?_ | refine WF ?_)
 (repeat refine WF ?_);refine AWP.region ?_;(repeat (first | refine WO ?_ | refine All.i fun X=>?_ | refine AllY.i fun Y=>?_));refine AOps.nil ?_;(repeat refine WN ?_)
 refine AWP.cond rfl (fun h3=>?_) (fun h3=>?_)
 ·rw [if_pos (of_decide_eq_true h3)] at hr
  subst hr
  (repeat first | refine AOps.nil ?_ | refine WF ?_)
  (repeat refine WF ?_);refine AWP.region ?_;(repeat (first | (refine AOps.gN ?_;first | (refine AOps.g_callf ?_;first | refine AOps.c2 (h:=(hft ..)) (k:=?_))) | refine WO ?_ | refine All.i fun X=>?_ | refine AllY.i fun Y=>?_));refine AOps.nil ?_;(repeat refine WN ?_)
  (refine AWP.ret ?_;(repeat (first | refine inB_r ?_ | refine andThen_r ?_));refine retQ_r ?_)
  exact Ends.id (rs:=[compsA false false (wFit ks comps).1,iA (wFit ks comps).2]) rfl
 rw [if_neg (of_decide_eq_false h3)] at hr
 subst hr
 (repeat first | refine AOps.nil ?_ | refine WF ?_)
 (repeat refine WF ?_);refine AWP.region ?_;(repeat (first | refine WO ?_ | refine All.i fun X=>?_ | refine AllY.i fun Y=>?_));refine AOps.nil ?_;(repeat refine WN ?_)
 (refine AWP.ret ?_;(repeat (first | refine inB_r ?_ | refine andThen_r ?_));refine retQ_r ?_)
 exact Ends.cv [.prim (.slice none 0 0),iA 1] [compsA false false [],iA 1] (.cons (.cell .nil) (.cons (.cell .same) .nil))
theorem cmdErr_at {ks:List Kind} {l:List Cmd} {i:Nat} {c:Cmd} (h:i < l.length) (hc:l[i] = c):cmdsErr ks (l.drop i) = if (cmdOne ks c).2 = 0 then cmdsErr ks (l.drop (i + 1)) else (cmdOne ks c).2:=by
 rw [List.drop_eq_getElem_cons h,cmdsErr,hc]
theorem cmdCheck_ps (w:Wd) (l:List Cmd) (hw:WdL w) (h12:w.kinds.length ≤ 12) (hl:l.length ≤ 1099511627776) (hc:∀ c ∈ l,c.comps.length ≤ 1099511627776):PS Tryz.prog 59 [wdA false w,cmdsA false l] (iA (cmdErr w l)):=by
 have hck:=check_ps' w hw.gens hw.items.1 (fun it hit=>(hw.items.2 it hit).1)
 obtain ⟨r,hr⟩:∃ r,cmdErr w l = r:=⟨_,rfl⟩
 rw [hr]
 unfold cmdErr at hr
 obtain ⟨we,hwe⟩:∃ we,wdErr w = we:=⟨_,rfl⟩
 rw [hwe] at hck hr
 have hlm:(l.map cmdA).length = l.length:=List.length_map _
 refine Spec.of (nt:=35) (res:=[.tmp 4]) Tryz.func59 rfl (by kernel_rfl) rfl rfl rfl fun Sf=>?_
 (repeat refine WF ?_);refine AWP.region ?_;(repeat (first | (refine AOps.gN ?_;first | (refine AOps.g_box ?_;refine AOps.goB ?_)) | refine WO ?_ | refine All.i fun X=>?_ | refine AllY.i fun Y=>?_));refine AOps.nil ?_;(repeat refine WN ?_)
 (repeat first | refine AOps.nil ?_ | refine WF ?_)
 (repeat refine WF ?_);refine AWP.region ?_;(repeat (first | (refine AOps.gN ?_;first | (refine AOps.g_callf ?_;first | refine AOps.c1 (h:=(hck ..)) (k:=?_))) | refine WO ?_ | refine All.i fun X=>?_ | refine AllY.i fun Y=>?_));refine AOps.nil ?_;(repeat refine WN ?_)
 (repeat first | refine AOps.nil ?_ | refine WF ?_)
 (repeat refine WF ?_);refine AWP.region ?_;(repeat (first | refine WO ?_ | refine All.i fun X=>?_ | refine AllY.i fun Y=>?_));refine AOps.nil ?_;(repeat refine WN ?_)
 refine AWP.cond rfl (fun h0=>?_) (fun h0=>?_)
 ·rw [if_pos (of_decide_eq_true h0)] at hr
  subst hr
  (repeat first | refine AOps.nil ?_ | refine WF ?_)
  (repeat refine WF ?_);refine AWP.region ?_;(repeat (first | refine WO ?_ | refine All.i fun X=>?_ | refine AllY.i fun Y=>?_));refine AOps.nil ?_;(repeat refine WN ?_)
  (refine AWP.ret ?_;(repeat (first | refine inB_r ?_ | refine andThen_r ?_));refine retQ_r ?_);refine Ends.ps ?_
  rfl
 rw [if_neg (of_decide_eq_false h0)] at hr
 (repeat first | refine AOps.nil ?_ | refine WF ?_)
 (repeat refine WF ?_);refine AWP.region ?_;(repeat (first | refine WO ?_ | refine All.i fun X=>?_ | refine AllY.i fun Y=>?_));refine AOps.nil ?_;(repeat refine WN ?_)
 refine AWP.cond rfl (fun h1=>?_) (fun h1=>?_)
 ·have h1:=of_decide_eq_true h1
  rw [if_pos (by omega)] at hr
  subst hr
  (repeat first | refine AOps.nil ?_ | refine WF ?_)
  (repeat refine WF ?_);refine AWP.region ?_;(repeat (first | refine WO ?_ | refine All.i fun X=>?_ | refine AllY.i fun Y=>?_));refine AOps.nil ?_;(repeat refine WN ?_)
  (refine AWP.ret ?_;(repeat (first | refine inB_r ?_ | refine andThen_r ?_));refine retQ_r ?_);refine Ends.ps ?_
  rfl
 have h1:=of_decide_eq_false h1
 rw [if_neg (by omega)] at hr
 subst hr
 (repeat first | refine AOps.nil ?_ | refine WF ?_)
 (repeat refine WF ?_);refine AWP.region ?_;(repeat (first | refine WO ?_ | refine All.i fun X=>?_ | refine AllY.i fun Y=>?_));refine AOps.nil ?_;(repeat refine WN ?_)
 (repeat first | refine AOps.nil ?_ | refine WF ?_)
 refine AWP.lp (fun (i:Nat)=>⟨[(2,.fp (wdA false w).cells),(18,cmdsA false l),(19,iA (l.map cmdA).length),(20,iA i)],Sf⟩) (fun i=>i ≤ l.length ∧ cmdsErr w.kinds (l.drop i) = cmdsErr w.kinds l) (fun i=>l.length - i) 0 ⟨Nat.zero_le _,rfl⟩ ?_
 rintro i ⟨hi,he⟩
 (repeat refine WF ?_);refine AWP.region ?_;(repeat (first | refine WO ?_ | refine All.i fun X=>?_ | refine AllY.i fun Y=>?_));refine AOps.nil ?_;(repeat refine WN ?_)
 (repeat first | refine AOps.nil ?_ | refine WF ?_)
 refine AWP.cond rfl (fun hc2=>?_) (fun hc2=>?_)
 ·have h:i < l.length:=by rw [decide_eq_true_eq,hlm] at hc2;omega
  obtain ⟨c,hcc⟩:∃ c,l[i] = c:=⟨_,rfl⟩
  have hat:(l.map cmdA)[i]? = some (cmdA c):=by rw [List.getElem?_map,List.getElem?_eq_getElem h,hcc];rfl
  have ho:=cmdOne_ps w.kinds c h12 (hc c (by rw [← hcc];exact List.getElem_mem h))
  rw [cmdErr_at h hcc] at he
  (repeat first | refine AOps.nil ?_ | refine WF ?_)
  (repeat refine WF ?_);refine AWP.region ?_;(repeat (first | refine WO ?_ | refine All.i fun V=>?_ | refine AllY.i fun Y=>?_));refine AOps.nil ?_;(repeat refine WN ?_)
  (repeat first | refine AOps.nil ?_ | refine WF ?_)
  (repeat refine WF ?_);refine AWP.region ?_;(repeat (first | (refine AOps.gN ?_;first | (refine AOps.g_callf ?_;first | refine AOps.c2 (h:=(ho ..)) (k:=?_))) | refine WO ?_ | refine All.i fun X=>?_ | refine AllY.i fun Y=>?_));refine AOps.nil ?_;(repeat refine WN ?_)
  (repeat first | refine AOps.nil ?_ | refine WF ?_)
  (repeat refine WF ?_);refine AWP.region ?_;(repeat (first | refine WO ?_ | refine All.i fun X=>?_ | refine AllY.i fun Y=>?_));refine AOps.nil ?_;(repeat refine WN ?_)
  refine AWP.cond rfl (fun h3=>?_) (fun h3=>?_)
  ·rw [if_neg (of_decide_eq_true h3)] at he
   (repeat first | refine AOps.nil ?_ | refine WF ?_)
   (repeat refine WF ?_);refine AWP.region ?_;(repeat (first | refine WO ?_ | refine All.i fun X=>?_ | refine AllY.i fun Y=>?_));refine AOps.nil ?_;(repeat refine WN ?_)
   (refine AWP.ret ?_;(repeat (first | refine inB_r ?_ | refine andThen_r ?_));refine retQ_r ?_);refine Ends.ps ?_
   exact congrArg iA he
  ·rw [if_pos (Decidable.not_not.1 (of_decide_eq_false h3))] at he
   (repeat first | refine AOps.nil ?_ | refine WF ?_)
   (repeat refine WF ?_);refine AWP.region ?_;(repeat (first | refine WO ?_ | refine All.i fun X=>?_ | refine AllY.i fun Y=>?_));refine AOps.nil ?_;(repeat refine WN ?_)
   exact lp_next (i + 1) ⟨h,he⟩ (by omega)
 ·have h:i = l.length:=by rw [decide_eq_false_iff_not,hlm] at hc2;omega
  rw [h,List.drop_length] at he
  (repeat first | refine AOps.nil ?_ | refine WF ?_)
  (repeat refine WF ?_);refine AWP.region ?_;(repeat (first | refine WO ?_ | refine All.i fun X=>?_ | refine AllY.i fun Y=>?_));refine AOps.nil ?_;(repeat refine WN ?_)
  (refine AWP.ret ?_;(repeat (first | refine inB_r ?_ | refine andThen_r ?_));refine retQ_r ?_);refine Ends.ps ?_
  exact congrArg iA he
set_option maxRecDepth 8000 in
theorem act_sp {a:Ar} {w:Wd} (h:ArFor a w) (h12:w.kinds.length ≤ 12) (c:Cmd) (hc:(cmdOne w.kinds c).2 = 0) (hn:I64 c.ent.n) (hl:c.comps.length ≤ 1099511627776):Spec Tryz.prog 105 [.ptr a.A 0 0,cmdA c] (arS a) fun r S'=>∃ b:Ar,(ArFor b (actW w c).1 ∧ b.A = a.A) ∧ r = .tup [entA (actW w c).2.1,bA (actW w c).2.2] ∧ S' = arS b:=by
 obtain ⟨act,ent,kind,comps⟩:=c
 dsimp only at hn hl
 unfold cmdOne at hc
 dsimp only at hc
 obtain ⟨r,hr⟩:∃ r,actW w ⟨act,ent,kind,comps⟩ = r:=⟨_,rfl⟩
 rw [hr]
 unfold actW at hr
 dsimp only at hr
 refine Spec.of (nt:=50) (res:=[.cell 4 32,.tmp 5]) Tryz.func105 rfl (by kernel_rfl) rfl rfl rfl fun Sf=>?_
 (repeat refine WF ?_);refine AWP.region ?_;(repeat (first | (refine AOps.gN ?_;first | (refine AOps.g_box ?_;refine AOps.goB ?_)) | refine WO ?_ | refine All.i fun P=>?_ | refine AllY.i fun Y=>?_));refine AOps.nil ?_;(repeat refine WN ?_)
 (repeat first | refine AOps.nil ?_ | refine WF ?_)
 (repeat refine WF ?_);refine AWP.region ?_;(repeat (first | refine WO ?_ | refine All.i fun X=>?_ | refine AllY.i fun Y=>?_));refine AOps.nil ?_;(repeat refine WN ?_)
 (repeat first | refine AOps.nil ?_ | refine WF ?_)
 (repeat refine WF ?_);refine AWP.region ?_;(repeat (first | refine WO ?_ | refine All.i fun X=>?_ | refine AllY.i fun Y=>?_));refine AOps.nil ?_;(repeat refine WN ?_)
 refine AWP.cond rfl (fun h0=>?_) (fun h0=>?_)
 ·rw [if_pos (of_decide_eq_true h0)] at hr hc
  split at hc
  ·rename_i h1
   obtain ⟨d,rfl⟩:=List.length_eq_one_iff.1 h1
   obtain ⟨_,_,_,d1,d2⟩:=wFit_sing hc
   have h16:=(checkErr_one h.wok.ks).1
   have hp:=putW_sp h h12 ent d hn ⟨by omega,by omega⟩
   replace hr:(stepW w (putOf w ent d).1 (putOf w ent d).2,(⟨0,0⟩:Ent),decide ((putOf w ent d).2 = 0)) = r:=hr
   subst hr
   (repeat first | refine AOps.nil ?_ | refine WF ?_)
   obtain ⟨err,herr⟩:∃ e,(putOf w ent d).2 = e:=⟨_,rfl⟩
   rw [herr] at hp ⊢
   refine AWP.region_runH (n:=1) [(P,.row 32 2 [entA ⟨0,0⟩])] (arS a ++ Sf) rfl (by kernel_rfl) (by kernel_rfl) ?_
   refine RGoH.go ?_
   refine RGoH.go ?_
   refine RGoH.go ?_
   refine RGoH.go ?_
   refine RGoH.go ?_
   refine RGoH.go ?_
   refine RGoH.go (h:=W.idxL (a:=0) (e:=compA false d) rfl rfl rfl rfl) ?_
   refine RGoH.go ?_
   refine RGoH.skip [13,15,19] ?_
   refine RGoH.skip [20] ?_
   refine RGoH.goS ?_
   refine RGoH.skip [21] ?_
   refine RGoH.nil (by kernel_rfl) (by kernel_rfl) (by kernel_rfl) ?_
   refine HC.step [(13,.ptr a.A 0 0),(15,entA ent),(19,compA false d)] ⟨rfl,rfl,rfl,rfl,rfl,rfl,trivial⟩ fun T F=>?_
   refine AOps.p3 F (h:=hp) (k:=fun b hb=>?_)
   refine AOps.nil ⟨rfl,_,_,⟨fun d v h=>h,.refl _⟩,?_⟩
   refine HC.step [(20,iA err)] ⟨rfl,rfl,trivial⟩ fun T2 F2=>?_
   (repeat refine WO ?_)
   refine AOps.nil ⟨rfl,_,_,⟨fun d v h=>h,.refl _⟩,?_⟩
   refine HC.step [(21,bA (decide (err = 0)))] ⟨rfl,rfl,trivial⟩ fun T3 F3=>?_
   (repeat refine WO ?_)
   refine AOps.nil ⟨rfl,_,_,⟨fun d v h=>h,.refl _⟩,?_⟩
   show andThen _ _ _ _
   (repeat first | refine AOps.nil ?_ | refine WF ?_)
   (refine AWP.ret ?_;(repeat (first | refine inB_r ?_ | refine andThen_r ?_));refine retQ_r ?_)
   exact Ends.sp [entA ⟨0,0⟩,bA (decide (err = 0))] (arS b) ⟨b,⟨by rw [← herr];rw [← herr] at hb;exact hb.1,hb.2⟩,rfl,rfl⟩
  ·cases hc
 rw [if_neg (of_decide_eq_false h0)] at hr hc
 (repeat first | refine AOps.nil ?_ | refine WF ?_)
 (repeat refine WF ?_);refine AWP.region ?_;(repeat (first | refine WO ?_ | refine All.i fun X=>?_ | refine AllY.i fun Y=>?_));refine AOps.nil ?_;(repeat refine WN ?_)
 refine AWP.cond rfl (fun h1=>?_) (fun h1=>?_)
 ·rw [if_pos (of_decide_eq_true h1)] at hr hc
  have hk:0 ≤ kind ∧ kind < w.kinds.length:=by
   split at hc
   ·cases hc
   ·omega
  have h16:=(checkErr_one h.wok.ks).1
  have hp:=dropW_sp h ent kind hn ⟨by omega,by omega⟩
  subst hr
  (repeat first | refine AOps.nil ?_ | refine WF ?_)
  (repeat refine WF ?_);refine AWP.region ?_;(repeat (first | (refine AOps.gN ?_;first | refine AOps.p3 [_] (h:=hp) (k:=fun b hb=>?_)) | refine WO ?_ | refine All.i fun X=>?_ | refine AllY.i fun Y=>?_));refine AOps.nil ?_;(repeat refine WN ?_)
  (repeat first | refine AOps.nil ?_ | refine WF ?_)
  (refine AWP.ret ?_;(repeat (first | refine inB_r ?_ | refine andThen_r ?_));refine retQ_r ?_)
  exact Ends.sp [entA ⟨0,0⟩,bA _] (arS b) ⟨b,hb,rfl,rfl⟩
 rw [if_neg (of_decide_eq_false h1)] at hr hc
 (repeat first | refine AOps.nil ?_ | refine WF ?_)
 (repeat refine WF ?_);refine AWP.region ?_;(repeat (first | refine WO ?_ | refine All.i fun X=>?_ | refine AllY.i fun Y=>?_));refine AOps.nil ?_;(repeat refine WN ?_)
 refine AWP.cond rfl (fun h2=>?_) (fun h2=>?_)
 ·rw [if_pos (of_decide_eq_true h2)] at hr hc
  have hp:=killW_sp h ent hn
  subst hr
  (repeat first | refine AOps.nil ?_ | refine WF ?_)
  (repeat refine WF ?_);refine AWP.region ?_;(repeat (first | (refine AOps.gN ?_;first | refine AOps.p2 [_] (h:=hp) (k:=fun b hb=>?_)) | refine WO ?_ | refine All.i fun X=>?_ | refine AllY.i fun Y=>?_));refine AOps.nil ?_;(repeat refine WN ?_)
  (repeat first | refine AOps.nil ?_ | refine WF ?_)
  (refine AWP.ret ?_;(repeat (first | refine inB_r ?_ | refine andThen_r ?_));refine retQ_r ?_)
  exact Ends.sp [entA ⟨0,0⟩,bA _] (arS b) ⟨b,hb,rfl,rfl⟩
 rw [if_neg (of_decide_eq_false h2)] at hr hc
 have hp:=arSpawn_sp a w h h12 comps hl
 subst hr
 (repeat first | refine AOps.nil ?_ | refine WF ?_)
 (repeat refine WF ?_);refine AWP.region ?_;(repeat (first | (refine AOps.gN ?_;first | refine AOps.p2 [_] (h:=hp) (k:=fun b hb=>?_)) | refine WO ?_ | refine All.i fun V=>?_ | refine AllY.i fun Y=>?_));refine AOps.nil ?_;(repeat refine WN ?_)
 (repeat first | refine AOps.nil ?_ | refine WF ?_)
 (repeat refine WF ?_);refine AWP.region ?_;(repeat (first | refine WO ?_ | refine All.i fun X=>?_ | refine AllY.i fun Y=>?_));refine AOps.nil ?_;(repeat refine WN ?_)
 (refine AWP.ret ?_;(repeat (first | refine inB_r ?_ | refine andThen_r ?_));refine retQ_r ?_)
 exact Ends.sp [entA _,bA _] (arS b) ⟨b,hb,rfl,rfl⟩
section
open Go.Sort
set_option maxHeartbeats 1000000 in
theorem insT_po (f:FuncId) (cap:List AV) (cf:Item → Item → Int) (hst:st1s cap = true) (hcf:∀ x y,PS Tryz.prog f ((itemA false) x :: (itemA false) y :: cap) (iA (cf x y))) (X n:Nat) (d:Array Item) (a b:Nat) (hn:n = d.size) (hab:a ≤ b) (hb:b ≤ d.size) (hz:d.size ≤ 1099511627776):PO Tryz.prog 120 [.sl X 0 n,iA a,iA b,.fn f cap] X (.row 55 3 (d.toList.map (itemA false))) (.tup []) (.row 55 3 ((insertionSort (ltOf cf) d a b).toList.map (itemA false))):=by
 obtain ⟨r,hr⟩:∃ r,insertionSort (ltOf cf) d a b = r:=⟨_,rfl⟩
 rw [hr]
 unfold insertionSort at hr
 refine Spec.of (nt:=53) (res:=[]) Tryz.func120 rfl (by kernel_rfl) rfl rfl rfl fun Sf=>?_
 (repeat (first | refine WK ?_ | refine All.i fun X=>?_ | refine AllY.i fun Y=>?_))
 refine AWP.lp2 (fun (i:Nat) (e:Array Item)=>⟨[(0,.sl X 0 n),(1,iA a),(2,iA b),(3,.fn f cap),(8,iA i)],(X,.row 55 3 (e.toList.map (itemA false))) :: Sf⟩) (fun i e=>i ≤ max b (a + 1) ∧ a < i ∧ e.size = d.size ∧ insOuter (ltOf cf) a b i e = r) (fun i _=>b - i) (a + 1) d ⟨by omega,by omega,rfl,hr⟩ ?_
 rintro i e ⟨hi,hai,he,hfold⟩
 rw [insOuter] at hfold
 (repeat (first | refine WK ?_ | refine All.i fun X=>?_ | refine AllY.i fun Y=>?_))
 refine AWP.cond rfl (fun hc=>?_) (fun hc=>?_)
 ·have h:i < b:=by have:=of_decide_eq_true hc;omega
  rw [if_pos h] at hfold
  (repeat (first | refine WK ?_ | refine All.i fun X=>?_ | refine AllY.i fun Y=>?_))
  refine AWP.lp2 (fun (j:Nat) (u:Array Item)=>⟨[(0,.sl X 0 n),(1,iA a),(2,iA b),(3,.fn f cap),(8,iA i),(9,iA j)],(X,.row 55 3 (u.toList.map (itemA false))) :: Sf⟩) (fun j u=>j ≤ i ∧ u.size = d.size ∧ insInner (ltOf cf) a j u = insInner (ltOf cf) a i e) (fun j _=>j) i e ⟨Nat.le_refl _,he,rfl⟩ ?_
  rintro j u ⟨hj,hu,hin⟩
  rcases Bool.eq_false_or_eq_true (decide ((a:Int) < (j:Int))) with g | g
  ·have hja:a < j:=by have:=of_decide_eq_true g;omega
   obtain ⟨q,rfl⟩:∃ q,j = q + 1:=⟨j - 1,by omega⟩
   have h1:=arr_at (itemA false) (d:=u) (i:=q + 1) (by omega)
   have h2:=arr_at (itemA false) (d:=u) (i:=q) (by omega)
   have hl:=hcf (u[q + 1]!) (u[q]!)
   rw [insInner] at hin
   (repeat refine WF ?_)
   (repeat refine WF ?_);refine AWP.region_run (by kernel_rfl) (by kernel_rfl) ?_;(repeat (first | (refine RGo.gN ?_;first | (refine RGo.g_callv ?_;first | refine RGo.k2 (h:=(hl ..)) (k:=?_)) | refine RGo.go (h:=W.subE (q:Int) (by omega) (by omega) rfl rfl) (k:=?_)) | (refine RGo.gQ ?_;first | (refine RGo.g_callv ?_;first | refine RGo.k2 (h:=(hl ..)) (k:=?_)) | refine RGo.go (h:=W.subE (q:Int) (by omega) (by omega) rfl rfl) (k:=?_)) | refine RK ?_ | refine RGo.nil (by kernel_rfl) ?_))
   (repeat refine WF ?_)
   refine AWP.cond rfl (fun hd=>?_) (fun hd=>?_)
   ·have hd:(ltOf cf) u[q + 1]! u[q]! = true:=by simpa [g,ltOf] using hd
    rw [hd,if_pos (by simp;omega)] at hin
    obtain ⟨y,hy⟩:=arr_set2 (itemA false) (d:=u) (i:=q + 1) (j:=q) (by omega) u[q]!
    (repeat refine WF ?_)
    (repeat refine WF ?_);refine AWP.region_run (by kernel_rfl) (by kernel_rfl) ?_;(repeat (first | (refine RGo.gN ?_;first | refine RGo.go (h:=W.subE (q:Int) (by omega) (by omega) rfl rfl) (k:=?_) | refine RGo.s (W.store rfl rfl (by exact At.f) hy (by exact rfl)) rfl ?_) | (refine RGo.gQ ?_;first | refine RGo.go (h:=W.subE (q:Int) (by omega) (by omega) rfl rfl) (k:=?_) | refine RGo.s (W.store rfl rfl (by exact At.f) hy (by exact rfl)) rfl ?_) | refine RK ?_ | refine RGo.nil (by kernel_rfl) ?_))
    (repeat (first | (refine AOps.gN ?_;first | refine AOps.p (W.subE (q:Int) (by omega) (by omega) rfl rfl) rfl ?_) | refine WK ?_ | refine All.i fun X=>?_ | refine AllY.i fun Y=>?_))
    refine lp_next2 q (swp u (q + 1) q) ⟨by omega,by rw [size_swp];exact hu,hin⟩ (h0:=by rw [← arr_swp (itemA false) (by omega) (by omega)];exact ⟨by exact Lk.f,by exact Sub.f⟩)
   ·have hd:(ltOf cf) u[q + 1]! u[q]! = false:=by simpa [g,ltOf] using hd
    rw [hd,if_neg (by simp)] at hin
    (repeat (first | refine WK ?_ | refine All.i fun X=>?_ | refine AllY.i fun Y=>?_))
    refine lp_next2 (i + 1) u ⟨by omega,by omega,hu,by rw [hin];exact hfold⟩
  ·have hja:j ≤ a:=by have:=of_decide_eq_false g;omega
   have hin2:insInner (ltOf cf) a j u = u:=by
    cases j with
    | zero=>rfl
    | succ q=>rw [insInner,if_neg (by simp;omega)]
   rw [hin2] at hin
   (repeat refine WF ?_)
   (repeat refine WF ?_);refine AWP.region_run (by kernel_rfl) (by kernel_rfl) ?_;(repeat (first | refine RK ?_ | refine RGo.nil (by kernel_rfl) ?_))
   (repeat refine WF ?_)
   refine AWP.cond_f rfl (by simp [g]) ?_
   (repeat (first | refine WK ?_ | refine All.i fun X=>?_ | refine AllY.i fun Y=>?_))
   refine lp_next2 (i + 1) u ⟨by omega,by omega,hu,by rw [hin];exact hfold⟩
 ·have h:¬ i < b:=by have:=of_decide_eq_false hc;omega
  rw [if_neg h] at hfold
  subst hfold
  (repeat (first | refine WK ?_ | refine All.i fun X=>?_ | refine AllY.i fun Y=>?_))
  refine retQ_n ?_
  exact Ends.void [(X,.row 55 3 (e.toList.map (itemA false)))] ⟨rfl,rfl⟩
end
section
open Go.Sort
set_option maxHeartbeats 1000000 in
theorem siftT_po (f:FuncId) (cap:List AV) (cf:Item → Item → Int) (hst:st1s cap = true) (hcf:∀ x y,PS Tryz.prog f ((itemA false) x :: (itemA false) y :: cap) (iA (cf x y))) (X n:Nat) (d:Array Item) (lo hi first:Nat) (hn:n = d.size) (hb:first + hi ≤ d.size) (hlo:lo ≤ 1099511627776) (hz:d.size ≤ 1099511627776):PO Tryz.prog 149 [.sl X 0 n,iA lo,iA hi,iA first,.fn f cap] X (.row 55 3 (d.toList.map (itemA false))) (.tup []) (.row 55 3 ((siftDown (ltOf cf) hi first lo d).toList.map (itemA false))):=by
 obtain ⟨r,hr⟩:∃ r,siftDown (ltOf cf) hi first lo d = r:=⟨_,rfl⟩
 rw [hr]
 refine Spec.of (nt:=82) (res:=[]) Tryz.func149 rfl (by kernel_rfl) rfl rfl rfl fun Sf=>?_
 (repeat (first | refine WK ?_ | refine All.i fun X=>?_ | refine AllY.i fun Y=>?_))
 refine AWP.lp2 (fun (root:Nat) (u:Array Item)=>⟨[(0,.sl X 0 n),(2,iA hi),(3,iA first),(4,.fn f cap),(10,iA root)],(X,.row 55 3 (u.toList.map (itemA false))) :: Sf⟩) (fun root u=>root ≤ max hi lo ∧ u.size = d.size ∧ siftDown (ltOf cf) hi first root u = r) (fun root _=>hi - root) lo d ⟨by omega,rfl,hr⟩ ?_
 rintro root u ⟨hro,hu,hfold⟩
 rw [siftDown] at hfold
 (repeat (first | (refine AOps.gN ?_;first | refine AOps.p (W.mulE ((2 * root:Nat):Int) (by omega) (by omega) rfl rfl) rfl ?_ | refine AOps.p (W.addE (((2 * root + 1:Nat):Int)) (by omega) (by omega) rfl rfl) rfl ?_) | refine WK ?_ | refine All.i fun X=>?_ | refine AllY.i fun Y=>?_))
 refine AWP.cond rfl (fun hc=>?_) (fun hc=>?_)
 ·have h:2 * root + 1 ≥ hi:=by have:=of_decide_eq_true hc;omega
  rw [dif_pos h] at hfold
  subst hfold
  (repeat (first | refine WK ?_ | refine All.i fun X=>?_ | refine AllY.i fun Y=>?_))
  refine retQ_n ?_
  exact Ends.void [(X,.row 55 3 (u.toList.map (itemA false)))] ⟨rfl,rfl⟩
 have h:¬ 2 * root + 1 ≥ hi:=by have:=of_decide_eq_false hc;omega
 rw [dif_neg h] at hfold
 refine AWP.skip ?_
 refine andThen_n ?_
 refine AWP.seq ?_
 refine AWP.joinS (fun c:Nat=>c < hi ∧ root < c ∧ (if !(ltOf cf) u[first + root]! u[first + c]! then u else siftDown (ltOf cf) hi first c (swp u (first + root) (first + c))) = r) (fun c=>⟨[(0,.sl X 0 n),(2,iA hi),(3,iA first),(4,.fn f cap),(10,iA root),(11,iA c)],(X,.row 55 3 (u.toList.map (itemA false))) :: Sf⟩) ?_ ?_
 ·rcases Bool.eq_false_or_eq_true (decide (((2 * root + 1 + 1:Nat):Int) < (hi:Int))) with g | g
  ·have hg:2 * root + 1 + 1 < hi:=by have:=of_decide_eq_true g;omega
   have h1:=arr_at (itemA false) (d:=u) (i:=first + (2 * root + 1)) (by omega)
   have h2:=arr_at (itemA false) (d:=u) (i:=first + (2 * root + 1) + 1) (by omega)
   have hl:=hcf (u[first + (2 * root + 1)]!) (u[first + (2 * root + 1) + 1]!)
   (repeat refine WF ?_);refine AWP.region_run (by kernel_rfl) (by kernel_rfl) ?_;(repeat (first | (refine RGo.gN ?_;first | (refine RGo.g_callv ?_;first | refine RGo.k2 (h:=(hl ..)) (k:=?_)) | refine RGo.go (h:=W.addE (((2 * root + 1 + 1:Nat):Int)) (by omega) (by omega) rfl rfl) (k:=?_) | refine RGo.go (h:=W.addE (((first + (2 * root + 1):Nat):Int)) (by omega) (by omega) rfl rfl) (k:=?_) | refine RGo.go (h:=W.addE (((first + (2 * root + 1) + 1:Nat):Int)) (by omega) (by omega) rfl rfl) (k:=?_)) | (refine RGo.gQ ?_;first | (refine RGo.g_callv ?_;first | refine RGo.k2 (h:=(hl ..)) (k:=?_)) | refine RGo.go (h:=W.addE (((2 * root + 1 + 1:Nat):Int)) (by omega) (by omega) rfl rfl) (k:=?_) | refine RGo.go (h:=W.addE (((first + (2 * root + 1):Nat):Int)) (by omega) (by omega) rfl rfl) (k:=?_) | refine RGo.go (h:=W.addE (((first + (2 * root + 1) + 1:Nat):Int)) (by omega) (by omega) rfl rfl) (k:=?_)) | refine RK ?_ | refine RGo.nil (by kernel_rfl) ?_))
   (repeat refine WF ?_)
   refine AWP.cond rfl (fun hd=>?_) (fun hd=>?_)
   ·have hd:(ltOf cf) u[first + (2 * root + 1)]! u[first + (2 * root + 1) + 1]! = true:=by simpa [g,ltOf] using hd
    rw [hd,if_pos (by simp;omega)] at hfold
    (repeat (first | (refine AOps.gN ?_;first | refine AOps.p (W.addE (((2 * root + 2:Nat):Int)) (by omega) (by omega) rfl rfl) rfl ?_) | refine WK ?_ | refine All.i fun X=>?_ | refine AllY.i fun Y=>?_))
    refine jn (2 * root + 2) ⟨by omega,by omega,?_⟩
    split at hfold
    ·rename_i hx;rw [if_pos hx];exact hfold
    ·rename_i hx;rw [if_neg hx];first | exact hfold | (rw [dif_pos (by omega)] at hfold;exact hfold)
   ·have hd:(ltOf cf) u[first + (2 * root + 1)]! u[first + (2 * root + 1) + 1]! = false:=by simpa [g,ltOf] using hd
    rw [hd,if_neg (by simp)] at hfold
    (repeat (first | refine WK ?_ | refine All.i fun X=>?_ | refine AllY.i fun Y=>?_))
    exact jn (2 * root + 1) ⟨by omega,by omega,hfold⟩
  ·have hg:¬ 2 * root + 1 + 1 < hi:=by have:=of_decide_eq_false g;omega
   rw [if_neg (by simp [hg])] at hfold
   (repeat refine WF ?_);refine AWP.region_run (by kernel_rfl) (by kernel_rfl) ?_;(repeat (first | (refine RGo.gN ?_;first | refine RGo.go (h:=W.addE (((2 * root + 1 + 1:Nat):Int)) (by omega) (by omega) rfl rfl) (k:=?_)) | (refine RGo.gQ ?_;first | refine RGo.go (h:=W.addE (((2 * root + 1 + 1:Nat):Int)) (by omega) (by omega) rfl rfl) (k:=?_)) | refine RK ?_ | refine RGo.nil (by kernel_rfl) ?_))
   (repeat refine WF ?_)
   refine AWP.cond_f rfl (by simp [g]) ?_
   (repeat (first | refine WK ?_ | refine All.i fun X=>?_ | refine AllY.i fun Y=>?_))
   exact jn (2 * root + 1) ⟨by omega,by omega,hfold⟩
 ·rintro c ⟨hch,hrc,hfold⟩
  have h1:=arr_at (itemA false) (d:=u) (i:=first + root) (by omega)
  have h2:=arr_at (itemA false) (d:=u) (i:=first + c) (by omega)
  have hl:=hcf (u[first + root]!) (u[first + c]!)
  (repeat refine WF ?_)
  (repeat refine WF ?_);refine AWP.region_run (by kernel_rfl) (by kernel_rfl) ?_;(repeat (first | (refine RGo.gN ?_;first | (refine RGo.g_callv ?_;first | refine RGo.k2 (h:=(hl ..)) (k:=?_)) | refine RGo.go (h:=W.addE (((first + root:Nat):Int)) (by omega) (by omega) rfl rfl) (k:=?_) | refine RGo.go (h:=W.addE (((first + c:Nat):Int)) (by omega) (by omega) rfl rfl) (k:=?_)) | (refine RGo.gQ ?_;first | (refine RGo.g_callv ?_;first | refine RGo.k2 (h:=(hl ..)) (k:=?_)) | refine RGo.go (h:=W.addE (((first + root:Nat):Int)) (by omega) (by omega) rfl rfl) (k:=?_) | refine RGo.go (h:=W.addE (((first + c:Nat):Int)) (by omega) (by omega) rfl rfl) (k:=?_)) | refine RK ?_ | refine RGo.nil (by kernel_rfl) ?_))
  (repeat refine WF ?_)
  refine AWP.cond rfl (fun hd=>?_) (fun hd=>?_)
  ·have hd:(!(ltOf cf) u[first + root]! u[first + c]!) = true:=by simpa [ltOf] using hd
   rw [if_pos hd] at hfold
   subst hfold
   (refine AWP.ret ?_;(repeat (first | refine inB_r ?_ | refine andThen_r ?_));refine retQ_r ?_)
   exact Ends.void [(X,.row 55 3 (u.toList.map (itemA false)))] ⟨rfl,rfl⟩
  ·have hd:(!(ltOf cf) u[first + root]! u[first + c]!) = false:=by simpa [ltOf] using hd
   rw [if_neg (by rw [hd];simp)] at hfold
   obtain ⟨y,hy⟩:=arr_set2 (itemA false) (d:=u) (i:=first + root) (j:=first + c) (by omega) u[first + c]!
   (repeat refine WF ?_)
   (repeat refine WF ?_);refine AWP.region_run (by kernel_rfl) (by kernel_rfl) ?_;(repeat (first | (refine RGo.gN ?_;first | refine RGo.go (h:=W.addE (((first + root:Nat):Int)) (by omega) (by omega) rfl rfl) (k:=?_) | refine RGo.go (h:=W.addE (((first + c:Nat):Int)) (by omega) (by omega) rfl rfl) (k:=?_) | refine RGo.s (W.store rfl rfl (by exact At.f) hy (by exact rfl)) rfl ?_) | (refine RGo.gQ ?_;first | refine RGo.go (h:=W.addE (((first + root:Nat):Int)) (by omega) (by omega) rfl rfl) (k:=?_) | refine RGo.go (h:=W.addE (((first + c:Nat):Int)) (by omega) (by omega) rfl rfl) (k:=?_) | refine RGo.s (W.store rfl rfl (by exact At.f) hy (by exact rfl)) rfl ?_) | refine RK ?_ | refine RGo.nil (by kernel_rfl) ?_))
   (repeat (first | refine WK ?_ | refine All.i fun X=>?_ | refine AllY.i fun Y=>?_))
   refine lp_next2 c (swp u (first + root) (first + c)) ⟨by omega,by rw [size_swp];exact hu,hfold⟩ (h0:=by rw [← arr_swp (itemA false) (by omega) (by omega)];exact ⟨by exact Lk.f,by exact Sub.f⟩)
set_option maxHeartbeats 1000000 in
theorem siftDown_sizeT (lt:Item → Item → Bool) (hi first:Nat):∀ (k root:Nat) (d:Array Item),hi - root ≤ k → (siftDown lt hi first root d).size = d.size
 | 0,root,d,h=>by rw [siftDown,dif_pos (by omega)]
 | k + 1,root,d,h=>by
  rw [siftDown]
  split
  ·rfl
  ·split
   ·split
    ·rfl
    ·split
     ·rw [siftDown_sizeT lt hi first k _ _ (by omega),size_swp]
     ·rfl
   ·split
    ·rfl
    ·rw [siftDown_sizeT lt hi first k _ _ (by omega),size_swp]
theorem heapT_po (f:FuncId) (cap:List AV) (cf:Item → Item → Int) (hst:st1s cap = true) (hcf:∀ x y,PS Tryz.prog f ((itemA false) x :: (itemA false) y :: cap) (iA (cf x y))) (X n:Nat) (d:Array Item) (a b:Nat) (hn:n = d.size) (hab:a < b) (hb:b ≤ d.size) (hz:d.size ≤ 1099511627776):PO Tryz.prog 121 [.sl X 0 n,iA a,iA b,.fn f cap] X (.row 55 3 (d.toList.map (itemA false))) (.tup []) (.row 55 3 ((heapSort (ltOf cf) d a b).toList.map (itemA false))):=by
 obtain ⟨r,hr⟩:∃ r,heapSort (ltOf cf) d a b = r:=⟨_,rfl⟩
 rw [hr]
 unfold heapSort at hr
 obtain ⟨m,hm⟩:∃ m,b - a = m:=⟨_,rfl⟩
 rw [hm] at hr
 refine Spec.of (nt:=60) (res:=[]) Tryz.func121 rfl (by kernel_rfl) rfl rfl rfl fun Sf=>?_
 (repeat (first | (refine AOps.gN ?_;first | refine AOps.p (W.subE ((m:Int)) (by omega) (by omega) rfl rfl) rfl ?_ | refine AOps.p (W.subE (((m - 1:Nat):Int)) (by omega) (by omega) rfl rfl) rfl ?_ | refine AOps.p (W.quoN (m - 1) 2 ((m - 1) / 2) rfl rfl (by omega) rfl (by omega) rfl rfl) rfl ?_) | refine WK ?_ | refine All.i fun X=>?_ | refine AllY.i fun Y=>?_))
 refine AWP.lp2 (fun (k:Nat) (u:Array Item)=>⟨[(0,.sl X 0 n),(3,.fn f cap),(8,iA a),(9,iA 0),(10,iA m),(11,iA ((k:Int) - 1))],(X,.row 55 3 (u.toList.map (itemA false))) :: Sf⟩) (fun k u=>k ≤ m ∧ u.size = d.size ∧ heapPop (ltOf cf) a m (heapBuild (ltOf cf) m a k u) = r) (fun k _=>k) ((m - 1) / 2 + 1) d ⟨by omega,rfl,hr⟩ ?_ (h0:=by rw [show ((((m - 1) / 2 + 1:Nat):Int) - 1) = (((m - 1) / 2:Nat):Int) by omega];exact ⟨by exact Lk.f,by exact Sub.f⟩)
 rintro k u ⟨hk,hu,hfold⟩
 (repeat (first | refine WK ?_ | refine All.i fun X=>?_ | refine AllY.i fun Y=>?_))
 refine AWP.cond rfl (fun hc=>?_) (fun hc=>?_)
 ·obtain ⟨q,rfl⟩:∃ q,k = q + 1:=⟨k - 1,by have:=of_decide_eq_true hc;omega⟩
  rw [heapBuild] at hfold
  have hs:=siftT_po f cap cf hst hcf X n u q m a (by omega) (by omega) (by omega) (by omega)
  have hsz:=siftDown_sizeT (ltOf cf) m a _ q u (Nat.le_refl _)
  rw [show (((q + 1:Nat):Int) - 1) = (q:Int) by omega]
  (repeat (first | (refine AOps.gN ?_;first | (refine AOps.g_callf ?_;first | refine AOps.o5 (h:=(hs ..)) (k:=?_)) | refine AOps.p (W.subE ((q:Int) - 1) (by omega) (by omega) rfl rfl) rfl ?_) | refine WK ?_ | refine All.i fun X=>?_ | refine AllY.i fun Y=>?_))
  exact lp_next2 q (siftDown (ltOf cf) m a q u) ⟨by omega,by omega,hfold⟩
 ·obtain rfl:k = 0:=by have:=of_decide_eq_false hc;omega
  rw [heapBuild] at hfold
  (repeat (first | (refine AOps.gN ?_;first | refine AOps.p (W.subE ((m:Int) - 1) (by omega) (by omega) rfl rfl) rfl ?_) | refine WK ?_ | refine All.i fun X=>?_ | refine AllY.i fun Y=>?_))
  clear hc hk
  refine AWP.lp2 (fun (k:Nat) (u:Array Item)=>⟨[(0,.sl X 0 n),(3,.fn f cap),(8,iA a),(9,iA 0),(10,iA m),(12,iA ((k:Int) - 1))],(X,.row 55 3 (u.toList.map (itemA false))) :: Sf⟩) (fun k u=>k ≤ m ∧ u.size = d.size ∧ heapPop (ltOf cf) a k u = r) (fun k _=>k) m u ⟨by omega,hu,hfold⟩ ?_
  clear hfold hu
  rintro k u ⟨hk,hu,hfold⟩
  (repeat (first | refine WK ?_ | refine All.i fun X=>?_ | refine AllY.i fun Y=>?_))
  refine AWP.cond rfl (fun hc=>?_) (fun hc=>?_)
  ·obtain ⟨q,rfl⟩:∃ q,k = q + 1:=⟨k - 1,by have:=of_decide_eq_true hc;omega⟩
   rw [heapPop] at hfold
   have h1:=arr_at (itemA false) (d:=u) (i:=a) (by omega)
   have h2:=arr_at (itemA false) (d:=u) (i:=a + q) (by omega)
   have hs:=siftT_po f cap cf hst hcf X n (swp u a (a + q)) 0 q a (by rw [size_swp];omega) (by rw [size_swp];omega) (by omega) (by rw [size_swp];omega)
   have hsz:=siftDown_sizeT (ltOf cf) q a _ 0 (swp u a (a + q)) (Nat.le_refl _)
   rw [size_swp] at hsz
   rw [show (((q + 1:Nat):Int) - 1) = (q:Int) by omega]
   obtain ⟨y,hy⟩:=arr_set2 (itemA false) (d:=u) (i:=a) (j:=a + q) (by omega) u[a + q]!
   have hrow:=arr_swp (itemA false) (d:=u) (i:=a) (j:=a + q) (by omega) (by omega)
   (repeat refine WF ?_)
   (repeat refine WF ?_);refine AWP.region_run (by kernel_rfl) (by kernel_rfl) ?_;(repeat (first | (refine RGo.gN ?_;first | refine RGo.go (h:=W.addE (((a + q:Nat):Int)) (by omega) (by omega) rfl rfl) (k:=?_) | refine RGo.s (W.store rfl rfl (by exact At.f) hy (by exact rfl)) rfl ?_) | (refine RGo.gQ ?_;first | refine RGo.go (h:=W.addE (((a + q:Nat):Int)) (by omega) (by omega) rfl rfl) (k:=?_) | refine RGo.s (W.store rfl rfl (by exact At.f) hy (by exact rfl)) rfl ?_) | refine RK ?_ | refine RGo.nil (by kernel_rfl) ?_))
   refine AWP.as [(0,.sl X 0 n),(3,.fn f cap),(8,iA a),(9,iA 0),(10,iA m),(12,iA q)] ((X,.row 55 3 ((swp u a (a + q)).toList.map (itemA false))) :: Sf) ?_ (h:=by rw [← hrow];exact ⟨by exact Lk.f,by exact Sub.f⟩)
   (repeat (first | (refine AOps.gN ?_;first | (refine AOps.g_callf ?_;first | refine AOps.o5 (h:=(hs ..)) (k:=?_)) | refine AOps.p (W.subE ((q:Int) - 1) (by omega) (by omega) rfl rfl) rfl ?_) | refine WK ?_ | refine All.i fun X=>?_ | refine AllY.i fun Y=>?_))
   exact lp_next2 q (siftDown (ltOf cf) q a 0 (swp u a (a + q))) ⟨by omega,by omega,hfold⟩
  ·obtain rfl:k = 0:=by have:=of_decide_eq_false hc;omega
   rw [heapPop] at hfold
   subst hfold
   (repeat (first | refine WK ?_ | refine All.i fun X=>?_ | refine AllY.i fun Y=>?_))
   refine retQ_n ?_
   exact Ends.void [(X,.row 55 3 (u.toList.map (itemA false)))] ⟨rfl,rfl⟩
set_option maxHeartbeats 1000000 in
theorem revT_po {f:FuncId} {cap:List AV} (X n:Nat) (d:Array Item) (a b:Nat) (hn:n = d.size) (hab:a < b) (hb:b ≤ d.size) (hz:d.size ≤ 1099511627776):PO Tryz.prog 124 [.sl X 0 n,iA a,iA b,.fn f cap] X (.row 55 3 (d.toList.map (itemA false))) (.tup []) (.row 55 3 ((reverseRange d a b).toList.map (itemA false))):=by
 obtain ⟨r,hr⟩:∃ r,reverseRange d a b = r:=⟨_,rfl⟩
 rw [hr]
 unfold reverseRange at hr
 refine Spec.of (nt:=34) (res:=[]) Tryz.func124 rfl (by kernel_rfl) rfl rfl rfl fun Sf=>?_
 (repeat (first | (refine AOps.gN ?_;first | refine AOps.p (W.subE (((b - 1:Nat):Int)) (by omega) (by omega) rfl rfl) rfl ?_) | refine WK ?_ | refine All.i fun X=>?_ | refine AllY.i fun Y=>?_))
 refine AWP.lp3 (fun (i j:Nat) (u:Array Item)=>⟨[(0,.sl X 0 n),(8,iA i),(9,iA j)],(X,.row 55 3 (u.toList.map (itemA false))) :: Sf⟩) (fun i j u=>i ≤ d.size ∧ j < d.size ∧ u.size = d.size ∧ reverseLoop i j u = r) (fun i j _=>j - i) a (b - 1) d ⟨by omega,by omega,rfl,hr⟩ ?_
 rintro i j u ⟨hi,hj,hu,hfold⟩
 rw [reverseLoop] at hfold
 (repeat (first | refine WK ?_ | refine All.i fun X=>?_ | refine AllY.i fun Y=>?_))
 refine AWP.cond rfl (fun hc=>?_) (fun hc=>?_)
 ·have h:i < j:=by have:=of_decide_eq_true hc;omega
  rw [if_pos h] at hfold
  have h1:=arr_at (itemA false) (d:=u) (i:=i) (by omega)
  have h2:=arr_at (itemA false) (d:=u) (i:=j) (by omega)
  obtain ⟨y,hy⟩:=arr_set2 (itemA false) (d:=u) (i:=i) (j:=j) (by omega) u[j]!
  (repeat refine WF ?_)
  (repeat refine WF ?_);refine AWP.region_run (by kernel_rfl) (by kernel_rfl) ?_;(repeat (first | (refine RGo.gN ?_;first | refine RGo.s (W.store rfl rfl (by exact At.f) hy (by exact rfl)) rfl ?_) | (refine RGo.gQ ?_;first | refine RGo.s (W.store rfl rfl (by exact At.f) hy (by exact rfl)) rfl ?_) | refine RK ?_ | refine RGo.nil (by kernel_rfl) ?_))
  (repeat (first | (refine AOps.gN ?_;first | refine AOps.p (W.subE (((j - 1:Nat):Int)) (by omega) (by omega) rfl rfl) rfl ?_) | refine WK ?_ | refine All.i fun X=>?_ | refine AllY.i fun Y=>?_))
  refine lp_next3 (i + 1) (j - 1) (swp u i j) ⟨by omega,by omega,by rw [size_swp];exact hu,hfold⟩ (h0:=by rw [← arr_swp (itemA false) (by omega) (by omega)];exact ⟨by exact Lk.f,by exact Sub.f⟩)
 ·have h:¬ i < j:=by have:=of_decide_eq_false hc;omega
  rw [if_neg h] at hfold
  subst hfold
  (repeat (first | refine WK ?_ | refine All.i fun X=>?_ | refine AllY.i fun Y=>?_))
  refine retQ_n ?_
  exact Ends.void [(X,.row 55 3 (u.toList.map (itemA false)))] ⟨rfl,rfl⟩
end
section
open Go.Sort
set_option maxHeartbeats 1000000 in
theorem scanUp_leT (p:Item → Bool) (d:Array Item) (j i:Nat):scanUp p d j i ≤ max i (j + 1):=by
 obtain ⟨m,hm⟩:∃ m,j + 1 - i = m:=⟨_,rfl⟩
 induction m generalizing i with
 | zero=>rw [scanUp,if_neg (fun e=>by rw [Bool.and_eq_true] at e;have:=of_decide_eq_true e.1;omega)];omega
 | succ m ih =>
  rw [scanUp]
  split
  ·have:=ih (i + 1) (by omega)
   omega
  ·omega
theorem peqT_po (f:FuncId) (cap:List AV) (cf:Item → Item → Int) (hst:st1s cap = true) (hcf:∀ x y,PS Tryz.prog f ((itemA false) x :: (itemA false) y :: cap) (iA (cf x y))) (X n:Nat) (d:Array Item) (a b pivot:Nat) (hn:n = d.size) (ha:a ≤ pivot) (hp:pivot < b) (hb:b ≤ d.size) (hz:d.size ≤ 1099511627776):PO Tryz.prog 126 [.sl X 0 n,iA a,iA b,iA pivot,.fn f cap] X (.row 55 3 (d.toList.map (itemA false))) (iA (partitionEqual (ltOf cf) d a b pivot).1) (.row 55 3 ((partitionEqual (ltOf cf) d a b pivot).2.toList.map (itemA false))):=by
 obtain ⟨r,hr⟩:∃ r,partitionEqual (ltOf cf) d a b pivot = r:=⟨_,rfl⟩
 rw [hr]
 unfold partitionEqual at hr
 refine Spec.of (nt:=90) (res:=[.tmp 10]) Tryz.func126 rfl (by kernel_rfl) rfl rfl rfl fun Sf=>?_
 have h1:=arr_at (itemA false) (d:=d) (i:=a) (by omega)
 have h2:=arr_at (itemA false) (d:=d) (i:=pivot) (by omega)
 obtain ⟨y,hy⟩:=arr_set2 (itemA false) (d:=d) (i:=a) (j:=pivot) (by omega) d[pivot]!
 (repeat refine WF ?_);refine AWP.region ?_;(repeat (first | refine WO ?_ | refine All.i fun X=>?_ | refine AllY.i fun Y=>?_));refine AOps.nil ?_;(repeat refine WN ?_)
 (repeat refine WF ?_);refine AWP.region_run (by kernel_rfl) (by kernel_rfl) ?_;(repeat (first | (refine RGo.gN ?_;first | refine RGo.s (W.store rfl rfl (by exact At.f) hy (by exact rfl)) rfl ?_) | (refine RGo.gQ ?_;first | refine RGo.s (W.store rfl rfl (by exact At.f) hy (by exact rfl)) rfl ?_) | refine RK ?_ | refine RGo.nil (by kernel_rfl) ?_))
 (repeat (first | (refine AOps.gN ?_;first | refine AOps.p (W.subE (((b - 1:Nat):Int)) (by omega) (by omega) rfl rfl) rfl ?_) | refine WK ?_ | refine All.i fun X=>?_ | refine AllY.i fun Y=>?_))
 refine AWP.lp3 (fun (i j:Nat) (u:Array Item)=>⟨[(0,.sl X 0 n),(1,iA a),(4,.fn f cap),(11,iA i),(12,iA j)],(X,.row 55 3 (u.toList.map (itemA false))) :: Sf⟩) (fun i j u=>a < i ∧ i ≤ j + 2 ∧ j < b ∧ u.size = d.size ∧ partEqLoop (ltOf cf) a i j u = r) (fun i j _=>j + 1 - i) (a + 1) (b - 1) (swp d a pivot) ⟨by omega,by omega,by omega,by rw [size_swp],hr⟩ ?_ (h0:=by rw [← arr_swp (itemA false) (by omega) (by omega)];exact ⟨by exact Lk.f,by exact Sub.f⟩)
 rintro i j u ⟨hai,hij,hjb,hu,hfold⟩
 rw [partEqLoop_eq] at hfold
 obtain ⟨i2,hi2⟩:∃ i2,scanUp (fun x=>!(ltOf cf) u[a]! x) u j i = i2:=⟨_,rfl⟩
 rw [hi2] at hfold
 obtain ⟨j2,hj2⟩:∃ j2,scanDown (fun x=>(ltOf cf) u[a]! x) u i2 j = j2:=⟨_,rfl⟩
 rw [hj2] at hfold
 have hge:=scanUp_ge (fun x=>!(ltOf cf) u[a]! x) u j i
 have hle:=scanDown_le (fun x=>(ltOf cf) u[a]! x) u i2 j
 rw [hi2] at hge
 rw [hj2] at hle
 have hge2:i2 ≤ max i (j + 1):=by rw [← hi2];exact scanUp_leT _ _ _ _
 refine AWP.block ?_
 (repeat (first | refine AWP.skip ?_ | refine andThen_n ?_ | refine AWP.seq ?_))
 refine AWP.joinS (fun k:Nat=>k = i2) (fun k=>⟨[(0,.sl X 0 n),(1,iA a),(4,.fn f cap),(11,iA k),(12,iA j)],(X,.row 55 3 (u.toList.map (itemA false))) :: Sf⟩) ?_ ?_
 ·refine AWP.block ?_
  refine AWP.lp (fun (k:Nat)=>⟨[(0,.sl X 0 n),(1,iA a),(4,.fn f cap),(11,iA k),(12,iA j)],(X,.row 55 3 (u.toList.map (itemA false))) :: Sf⟩) (fun k=>i ≤ k ∧ k ≤ max i (j + 1) ∧ scanUp (fun x=>!(ltOf cf) u[a]! x) u j k = i2) (fun k=>j + 1 - k) i ⟨Nat.le_refl _,by omega,hi2⟩ ?_
  rintro k ⟨hk1,hk2,hk⟩
  rw [scanUp] at hk
  rcases Bool.eq_false_or_eq_true (decide ((k:Int) ≤ (j:Int))) with g | g
  ·have hg:k ≤ j:=by have:=of_decide_eq_true g;omega
   have h1:=arr_at (itemA false) (d:=u) (i:=k) (by omega)
   have h2:=arr_at (itemA false) (d:=u) (i:=a) (by omega)
   have hl:=hcf (u[a]!) (u[k]!)
   (repeat refine WF ?_)
   (repeat refine WF ?_);refine AWP.region_run (by kernel_rfl) (by kernel_rfl) ?_;(repeat (first | (refine RGo.gN ?_;first | (refine RGo.g_callv ?_;first | refine RGo.k2 (h:=(hl ..)) (k:=?_))) | (refine RGo.gQ ?_;first | (refine RGo.g_callv ?_;first | refine RGo.k2 (h:=(hl ..)) (k:=?_))) | refine RK ?_ | refine RGo.nil (by kernel_rfl) ?_))
   (repeat refine WF ?_)
   refine AWP.cond rfl (fun hd=>?_) (fun hd=>?_)
   ·have hd:(!(ltOf cf) u[a]! u[k]!) = true:=by simpa [g,ltOf] using hd
    rw [if_pos (by rw [Bool.and_eq_true];exact ⟨decide_eq_true (by omega),hd⟩)] at hk
    (repeat (first | refine WK ?_ | refine All.i fun X=>?_ | refine AllY.i fun Y=>?_))
    exact lp_next (k + 1) ⟨by omega,by omega,hk⟩
   ·have hd:(!(ltOf cf) u[a]! u[k]!) = false:=by simpa [g,ltOf] using hd
    rw [if_neg (fun e=>by rw [Bool.and_eq_true] at e;have e2:=e.2;rw [hd] at e2;cases e2)] at hk
    (repeat (first | refine WK ?_ | refine All.i fun X=>?_ | refine AllY.i fun Y=>?_))
    exact jn k hk
  ·have hg:¬ k ≤ j:=by have:=of_decide_eq_false g;omega
   rw [if_neg (fun e=>by rw [Bool.and_eq_true] at e;have:=of_decide_eq_true e.1;omega)] at hk
   (repeat refine WF ?_)
   (repeat refine WF ?_);refine AWP.region_run (by kernel_rfl) (by kernel_rfl) ?_;(repeat (first | refine RK ?_ | refine RGo.nil (by kernel_rfl) ?_))
   (repeat refine WF ?_)
   refine AWP.cond_f rfl (by simp [g]) ?_
   (repeat (first | refine WK ?_ | refine All.i fun X=>?_ | refine AllY.i fun Y=>?_))
   exact jn k hk
 rintro k hk0
 rw [hk0]
 clear hk0 k
 (repeat (first | refine AWP.skip ?_ | refine andThen_n ?_ | refine AWP.seq ?_))
 refine AWP.joinS (fun k:Nat=>k = j2) (fun k=>⟨[(0,.sl X 0 n),(1,iA a),(4,.fn f cap),(11,iA i2),(12,iA k)],(X,.row 55 3 (u.toList.map (itemA false))) :: Sf⟩) ?_ ?_
 ·refine AWP.block ?_
  refine AWP.lp (fun (k:Nat)=>⟨[(0,.sl X 0 n),(1,iA a),(4,.fn f cap),(11,iA i2),(12,iA k)],(X,.row 55 3 (u.toList.map (itemA false))) :: Sf⟩) (fun k=>k ≤ j ∧ scanDown (fun x=>(ltOf cf) u[a]! x) u i2 k = j2) (fun k=>k) j ⟨Nat.le_refl _,hj2⟩ ?_
  rintro k ⟨hk1,hk⟩
  rcases Bool.eq_false_or_eq_true (decide ((i2:Int) ≤ (k:Int))) with g | g
  ·have hg:i2 ≤ k:=by have:=of_decide_eq_true g;omega
   obtain ⟨q,rfl⟩:∃ q,k = q + 1:=⟨k - 1,by omega⟩
   rw [scanDown] at hk
   have h1:=arr_at (itemA false) (d:=u) (i:=q + 1) (by omega)
   have h2:=arr_at (itemA false) (d:=u) (i:=a) (by omega)
   have hl:=hcf (u[a]!) (u[q + 1]!)
   (repeat refine WF ?_)
   (repeat refine WF ?_);refine AWP.region_run (by kernel_rfl) (by kernel_rfl) ?_;(repeat (first | (refine RGo.gN ?_;first | (refine RGo.g_callv ?_;first | refine RGo.k2 (h:=(hl ..)) (k:=?_))) | (refine RGo.gQ ?_;first | (refine RGo.g_callv ?_;first | refine RGo.k2 (h:=(hl ..)) (k:=?_))) | refine RK ?_ | refine RGo.nil (by kernel_rfl) ?_))
   (repeat refine WF ?_)
   refine AWP.cond rfl (fun hd=>?_) (fun hd=>?_)
   ·have hd:((ltOf cf) u[a]! u[q + 1]!) = true:=by simpa [g,ltOf] using hd
    rw [if_pos (by rw [Bool.and_eq_true];exact ⟨decide_eq_true (by omega),hd⟩)] at hk
    (repeat (first | (refine AOps.gN ?_;first | refine AOps.p (W.subE ((q:Int)) (by omega) (by omega) rfl rfl) rfl ?_) | refine WK ?_ | refine All.i fun X=>?_ | refine AllY.i fun Y=>?_))
    exact lp_next q ⟨by omega,hk⟩
   ·have hd:((ltOf cf) u[a]! u[q + 1]!) = false:=by simpa [g,ltOf] using hd
    rw [if_neg (fun e=>by rw [Bool.and_eq_true] at e;have e2:=e.2;rw [hd] at e2;cases e2)] at hk
    (repeat (first | refine WK ?_ | refine All.i fun X=>?_ | refine AllY.i fun Y=>?_))
    exact jn (q + 1) hk
  ·have hg:¬ i2 ≤ k:=by have:=of_decide_eq_false g;omega
   have hk3:scanDown (fun x=>(ltOf cf) u[a]! x) u i2 k = k:=by
    cases k with
    | zero=>rfl
    | succ q=>rw [scanDown,if_neg (fun e=>by rw [Bool.and_eq_true] at e;have:=of_decide_eq_true e.1;omega)]
   rw [hk3] at hk
   (repeat refine WF ?_)
   (repeat refine WF ?_);refine AWP.region_run (by kernel_rfl) (by kernel_rfl) ?_;(repeat (first | refine RK ?_ | refine RGo.nil (by kernel_rfl) ?_))
   (repeat refine WF ?_)
   refine AWP.cond_f rfl (by simp [g]) ?_
   (repeat (first | refine WK ?_ | refine All.i fun X=>?_ | refine AllY.i fun Y=>?_))
   exact jn k hk
 rintro k hk0
 rw [hk0]
 clear hk0 k
 (repeat (first | refine WK ?_ | refine All.i fun X=>?_ | refine AllY.i fun Y=>?_))
 refine AWP.cond rfl (fun hc=>?_) (fun hc=>?_)
 ·have h:i2 > j2:=by have:=of_decide_eq_true hc;omega
  rw [if_pos h] at hfold
  subst hfold
  (repeat (first | refine WK ?_ | refine All.i fun X=>?_ | refine AllY.i fun Y=>?_))
  (refine AWP.ret ?_;(repeat (first | refine inB_r ?_ | refine andThen_r ?_));refine retQ_r ?_)
  exact Ends.sp [iA i2] [(X,_)] ⟨rfl,rfl⟩
 ·have h:¬ i2 > j2:=by have:=of_decide_eq_false hc;omega
  rw [if_neg h] at hfold
  have h1:=arr_at (itemA false) (d:=u) (i:=i2) (by omega)
  have h2:=arr_at (itemA false) (d:=u) (i:=j2) (by omega)
  obtain ⟨y,hy⟩:=arr_set2 (itemA false) (d:=u) (i:=i2) (j:=j2) (by omega) u[j2]!
  (repeat refine WF ?_)
  (repeat refine WF ?_);refine AWP.region_run (by kernel_rfl) (by kernel_rfl) ?_;(repeat (first | (refine RGo.gN ?_;first | refine RGo.s (W.store rfl rfl (by exact At.f) hy (by exact rfl)) rfl ?_) | (refine RGo.gQ ?_;first | refine RGo.s (W.store rfl rfl (by exact At.f) hy (by exact rfl)) rfl ?_) | refine RK ?_ | refine RGo.nil (by kernel_rfl) ?_))
  (repeat (first | (refine AOps.gN ?_;first | refine AOps.p (W.subE (((j2 - 1:Nat):Int)) (by omega) (by omega) rfl rfl) rfl ?_) | refine WK ?_ | refine All.i fun X=>?_ | refine AllY.i fun Y=>?_))
  refine lp_next3 (i2 + 1) (j2 - 1) (swp u i2 j2) ⟨by omega,by omega,by omega,by rw [size_swp];exact hu,hfold⟩ (h0:=by rw [← arr_swp (itemA false) (by omega) (by omega)];exact ⟨by exact Lk.f,by exact Sub.f⟩)
set_option maxHeartbeats 1000000 in
theorem partT_po (f:FuncId) (cap:List AV) (cf:Item → Item → Int) (hst:st1s cap = true) (hcf:∀ x y,PS Tryz.prog f ((itemA false) x :: (itemA false) y :: cap) (iA (cf x y))) (X n:Nat) (d:Array Item) (a b pivot:Nat) (hn:n = d.size) (ha:a ≤ pivot) (hp:pivot < b) (hb:b ≤ d.size) (hz:d.size ≤ 1099511627776):PO Tryz.prog 127 [.sl X 0 n,iA a,iA b,iA pivot,.fn f cap] X (.row 55 3 (d.toList.map (itemA false))) (.tup [iA (partition (ltOf cf) d a b pivot).1,bA (partition (ltOf cf) d a b pivot).2.1]) (.row 55 3 ((partition (ltOf cf) d a b pivot).2.2.toList.map (itemA false))):=by
 obtain ⟨r,hr⟩:∃ r,partition (ltOf cf) d a b pivot = r:=⟨_,rfl⟩
 rw [hr]
 dsimp only [partition] at hr
 refine Spec.of (nt:=178) (res:=[.tmp 10,.tmp 11]) Tryz.func127 rfl (by kernel_rfl) rfl rfl rfl fun Sf=>?_
 have h1:=arr_at (itemA false) (d:=d) (i:=a) (by omega)
 have h2:=arr_at (itemA false) (d:=d) (i:=pivot) (by omega)
 have hrow:=arr_swp (itemA false) (d:=d) (i:=a) (j:=pivot) (by omega) (by omega)
 obtain ⟨y,hy⟩:=arr_set2 (itemA false) (d:=d) (i:=a) (j:=pivot) (by omega) d[pivot]!
 (repeat refine WF ?_);refine AWP.region ?_;(repeat (first | refine WO ?_ | refine All.i fun X=>?_ | refine AllY.i fun Y=>?_));refine AOps.nil ?_;(repeat refine WN ?_)
 (repeat refine WF ?_);refine AWP.region_run (by kernel_rfl) (by kernel_rfl) ?_;(repeat (first | (refine RGo.gN ?_;first | refine RGo.s (W.store rfl rfl (by exact At.f) hy (by exact rfl)) rfl ?_) | (refine RGo.gQ ?_;first | refine RGo.s (W.store rfl rfl (by exact At.f) hy (by exact rfl)) rfl ?_) | refine RK ?_ | refine RGo.nil (by kernel_rfl) ?_))
 have hsz:(swp d a pivot).size = d.size:=size_swp _ _ _
 obtain ⟨u,hu0⟩:∃ u,swp d a pivot = u:=⟨_,rfl⟩
 rw [hu0] at hr hrow hsz
 obtain ⟨j,hj⟩:∃ j,b - 1 = j:=⟨_,rfl⟩
 obtain ⟨i,hi⟩:∃ i,a + 1 = i:=⟨_,rfl⟩
 rw [hj,hi] at hr
 (repeat refine WF ?_);refine AWP.region ?_;(repeat (first | (refine AOps.gN ?_;first | refine AOps.p (W.subE ((j:Int)) (by omega) (by omega) rfl rfl) rfl ?_ | refine AOps.p (W.addE (((i:Nat):Int)) (by omega) (by omega) rfl rfl) rfl ?_) | refine WO ?_ | refine All.i fun X=>?_ | refine AllY.i fun Y=>?_));refine AOps.nil ?_;(repeat refine WN ?_)
 (repeat (first | refine AWP.skip ?_ | refine andThen_n ?_ | refine AWP.seq ?_))
 refine AWP.as [(0,.sl X 0 n),(1,iA a),(4,.fn f cap),(12,iA i),(13,iA j)] ((X,.row 55 3 (u.toList.map (itemA false))) :: Sf) ?_ (h:=by rw [← hrow];exact ⟨by exact Lk.f,by exact Sub.f⟩)
 have hu:u.size = d.size:=hsz
 have hfold:=hr
 obtain ⟨i2,hi2⟩:∃ i2,scanUp (fun x=>(ltOf cf) x u[a]!) u j i = i2:=⟨_,rfl⟩
 rw [hi2] at hfold
 obtain ⟨j2,hj2⟩:∃ j2,scanDown (fun x=>!(ltOf cf) x u[a]!) u i2 j = j2:=⟨_,rfl⟩
 rw [hj2] at hfold
 have hge:=scanUp_ge (fun x=>(ltOf cf) x u[a]!) u j i
 have hle:=scanDown_le (fun x=>!(ltOf cf) x u[a]!) u i2 j
 rw [hi2] at hge
 rw [hj2] at hle
 have hge2:i2 ≤ max i (j + 1):=by rw [← hi2];exact scanUp_leT _ _ _ _
 refine AWP.joinS (fun k:Nat=>k = i2) (fun k=>⟨[(0,.sl X 0 n),(1,iA a),(4,.fn f cap),(12,iA k),(13,iA j)],(X,.row 55 3 (u.toList.map (itemA false))) :: Sf⟩) ?_ ?_
 ·refine AWP.block ?_
  refine AWP.lp (fun (k:Nat)=>⟨[(0,.sl X 0 n),(1,iA a),(4,.fn f cap),(12,iA k),(13,iA j)],(X,.row 55 3 (u.toList.map (itemA false))) :: Sf⟩) (fun k=>i ≤ k ∧ k ≤ max i (j + 1) ∧ scanUp (fun x=>(ltOf cf) x u[a]!) u j k = i2) (fun k=>j + 1 - k) i ⟨Nat.le_refl _,by omega,hi2⟩ ?_
  rintro k ⟨hk1,hk2,hk⟩
  rw [scanUp] at hk
  rcases Bool.eq_false_or_eq_true (decide ((k:Int) ≤ (j:Int))) with g | g
  ·have hg:k ≤ j:=by have:=of_decide_eq_true g;omega
   have h1:=arr_at (itemA false) (d:=u) (i:=k) (by omega)
   have h2:=arr_at (itemA false) (d:=u) (i:=a) (by omega)
   have hl:=hcf (u[k]!) (u[a]!)
   (repeat refine WF ?_)
   (repeat refine WF ?_);refine AWP.region_run (by kernel_rfl) (by kernel_rfl) ?_;(repeat (first | (refine RGo.gN ?_;first | (refine RGo.g_callv ?_;first | refine RGo.k2 (h:=(hl ..)) (k:=?_))) | (refine RGo.gQ ?_;first | (refine RGo.g_callv ?_;first | refine RGo.k2 (h:=(hl ..)) (k:=?_))) | refine RK ?_ | refine RGo.nil (by kernel_rfl) ?_))
   (repeat refine WF ?_)
   refine AWP.cond rfl (fun hd=>?_) (fun hd=>?_)
   ·have hd:((ltOf cf) u[k]! u[a]!) = true:=by simpa [g,ltOf] using hd
    rw [if_pos (by rw [Bool.and_eq_true];exact ⟨decide_eq_true (by omega),hd⟩)] at hk
    (repeat (first | refine WK ?_ | refine All.i fun X=>?_ | refine AllY.i fun Y=>?_))
    exact lp_next (k + 1) ⟨by omega,by omega,hk⟩
   ·have hd:((ltOf cf) u[k]! u[a]!) = false:=by simpa [g,ltOf] using hd
    rw [if_neg (fun e=>by rw [Bool.and_eq_true] at e;have e2:=e.2;rw [hd] at e2;cases e2)] at hk
    (repeat (first | refine WK ?_ | refine All.i fun X=>?_ | refine AllY.i fun Y=>?_))
    exact jn k hk
  ·have hg:¬ k ≤ j:=by have:=of_decide_eq_false g;omega
   rw [if_neg (fun e=>by rw [Bool.and_eq_true] at e;have:=of_decide_eq_true e.1;omega)] at hk
   (repeat refine WF ?_)
   (repeat refine WF ?_);refine AWP.region_run (by kernel_rfl) (by kernel_rfl) ?_;(repeat (first | refine RK ?_ | refine RGo.nil (by kernel_rfl) ?_))
   (repeat refine WF ?_)
   refine AWP.cond_f rfl (by simp [g]) ?_
   (repeat (first | refine WK ?_ | refine All.i fun X=>?_ | refine AllY.i fun Y=>?_))
   exact jn k hk
 rintro k hk0
 rw [hk0]
 clear hk0 k
 (repeat (first | refine AWP.skip ?_ | refine andThen_n ?_ | refine AWP.seq ?_))
 refine AWP.joinS (fun k:Nat=>k = j2) (fun k=>⟨[(0,.sl X 0 n),(1,iA a),(4,.fn f cap),(12,iA i2),(13,iA k)],(X,.row 55 3 (u.toList.map (itemA false))) :: Sf⟩) ?_ ?_
 ·refine AWP.block ?_
  refine AWP.lp (fun (k:Nat)=>⟨[(0,.sl X 0 n),(1,iA a),(4,.fn f cap),(12,iA i2),(13,iA k)],(X,.row 55 3 (u.toList.map (itemA false))) :: Sf⟩) (fun k=>k ≤ j ∧ scanDown (fun x=>!(ltOf cf) x u[a]!) u i2 k = j2) (fun k=>k) j ⟨Nat.le_refl _,hj2⟩ ?_
  rintro k ⟨hk1,hk⟩
  rcases Bool.eq_false_or_eq_true (decide ((i2:Int) ≤ (k:Int))) with g | g
  ·have hg:i2 ≤ k:=by have:=of_decide_eq_true g;omega
   obtain ⟨q,rfl⟩:∃ q,k = q + 1:=⟨k - 1,by omega⟩
   rw [scanDown] at hk
   have h1:=arr_at (itemA false) (d:=u) (i:=q + 1) (by omega)
   have h2:=arr_at (itemA false) (d:=u) (i:=a) (by omega)
   have hl:=hcf (u[q + 1]!) (u[a]!)
   (repeat refine WF ?_)
   (repeat refine WF ?_);refine AWP.region_run (by kernel_rfl) (by kernel_rfl) ?_;(repeat (first | (refine RGo.gN ?_;first | (refine RGo.g_callv ?_;first | refine RGo.k2 (h:=(hl ..)) (k:=?_))) | (refine RGo.gQ ?_;first | (refine RGo.g_callv ?_;first | refine RGo.k2 (h:=(hl ..)) (k:=?_))) | refine RK ?_ | refine RGo.nil (by kernel_rfl) ?_))
   (repeat refine WF ?_)
   refine AWP.cond rfl (fun hd=>?_) (fun hd=>?_)
   ·have hd:(!(ltOf cf) u[q + 1]! u[a]!) = true:=by simpa [g,ltOf] using hd
    rw [if_pos (by rw [Bool.and_eq_true];exact ⟨decide_eq_true (by omega),hd⟩)] at hk
    (repeat (first | (refine AOps.gN ?_;first | refine AOps.p (W.subE ((q:Int)) (by omega) (by omega) rfl rfl) rfl ?_) | refine WK ?_ | refine All.i fun X=>?_ | refine AllY.i fun Y=>?_))
    exact lp_next q ⟨by omega,hk⟩
   ·have hd:(!(ltOf cf) u[q + 1]! u[a]!) = false:=by simpa [g,ltOf] using hd
    rw [if_neg (fun e=>by rw [Bool.and_eq_true] at e;have e2:=e.2;rw [hd] at e2;cases e2)] at hk
    (repeat (first | refine WK ?_ | refine All.i fun X=>?_ | refine AllY.i fun Y=>?_))
    exact jn (q + 1) hk
  ·have hg:¬ i2 ≤ k:=by have:=of_decide_eq_false g;omega
   have hk3:scanDown (fun x=>!(ltOf cf) x u[a]!) u i2 k = k:=by
    cases k with
    | zero=>rfl
    | succ q=>rw [scanDown,if_neg (fun e=>by rw [Bool.and_eq_true] at e;have:=of_decide_eq_true e.1;omega)]
   rw [hk3] at hk
   (repeat refine WF ?_)
   (repeat refine WF ?_);refine AWP.region_run (by kernel_rfl) (by kernel_rfl) ?_;(repeat (first | refine RK ?_ | refine RGo.nil (by kernel_rfl) ?_))
   (repeat refine WF ?_)
   refine AWP.cond_f rfl (by simp [g]) ?_
   (repeat (first | refine WK ?_ | refine All.i fun X=>?_ | refine AllY.i fun Y=>?_))
   exact jn k hk
 rintro k hk0
 rw [hk0]
 clear hk0 k
 (repeat (first | refine WK ?_ | refine All.i fun X=>?_ | refine AllY.i fun Y=>?_))
 refine AWP.cond rfl (fun hc=>?_) (fun hc=>?_)
 ·have h:i2 > j2:=by have:=of_decide_eq_true hc;omega
  rw [if_pos h] at hfold
  subst hfold
  have h1:=arr_at (itemA false) (d:=u) (i:=j2) (by omega)
  have h2:=arr_at (itemA false) (d:=u) (i:=a) (by omega)
  have hrow2:=arr_swp (itemA false) (d:=u) (i:=j2) (j:=a) (by omega) (by omega)
  obtain ⟨y,hy⟩:=arr_set2 (itemA false) (d:=u) (i:=j2) (j:=a) (by omega) u[a]!
  (repeat refine WF ?_)
  (repeat refine WF ?_);refine AWP.region_run (by kernel_rfl) (by kernel_rfl) ?_;(repeat (first | (refine RGo.gN ?_;first | refine RGo.s (W.store rfl rfl (by exact At.f) hy (by exact rfl)) rfl ?_) | (refine RGo.gQ ?_;first | refine RGo.s (W.store rfl rfl (by exact At.f) hy (by exact rfl)) rfl ?_) | refine RK ?_ | refine RGo.nil (by kernel_rfl) ?_))
  (repeat (first | refine WK ?_ | refine All.i fun X=>?_ | refine AllY.i fun Y=>?_))
  (refine AWP.ret ?_;(repeat (first | refine inB_r ?_ | refine andThen_r ?_));refine retQ_r ?_)
  exact Ends.sp [iA j2,bA true] [(X,_)] ⟨rfl,by rw [← hrow2]⟩
 have h:¬ i2 > j2:=by have:=of_decide_eq_false hc;omega
 rw [if_neg h] at hfold
 obtain ⟨pr,hpr⟩:∃ pr,partLoop (ltOf cf) a (i2 + 1) (j2 - 1) (swp u i2 j2) = pr:=⟨_,rfl⟩
 rw [hpr] at hfold
 have h1:=arr_at (itemA false) (d:=u) (i:=i2) (by omega)
 have h2:=arr_at (itemA false) (d:=u) (i:=j2) (by omega)
 clear y hy
 obtain ⟨y,hy⟩:=arr_set2 (itemA false) (d:=u) (i:=i2) (j:=j2) (by omega) u[j2]!
 (repeat refine WF ?_)
 (repeat refine WF ?_);refine AWP.region_run (by kernel_rfl) (by kernel_rfl) ?_;(repeat (first | (refine RGo.gN ?_;first | refine RGo.s (W.store rfl rfl (by exact At.f) hy (by exact rfl)) rfl ?_) | (refine RGo.gQ ?_;first | refine RGo.s (W.store rfl rfl (by exact At.f) hy (by exact rfl)) rfl ?_) | refine RK ?_ | refine RGo.nil (by kernel_rfl) ?_))
 (repeat (first | (refine AOps.gN ?_;first | refine AOps.p (W.subE (((j2 - 1:Nat):Int)) (by omega) (by omega) rfl rfl) rfl ?_) | refine WK ?_ | refine All.i fun X=>?_ | refine AllY.i fun Y=>?_))
 refine AWP.lp3 (fun (i j:Nat) (u:Array Item)=>⟨[(0,.sl X 0 n),(1,iA a),(4,.fn f cap),(12,iA i),(13,iA j)],(X,.row 55 3 (u.toList.map (itemA false))) :: Sf⟩) (fun i j u=>a < i ∧ i ≤ j + 2 ∧ j < b ∧ u.size = d.size ∧ partLoop (ltOf cf) a i j u = pr) (fun i j _=>j + 1 - i) (i2 + 1) (j2 - 1) (swp u i2 j2) ⟨by omega,by omega,by omega,by rw [size_swp];exact hu,hpr⟩ ?_ (h0:=by rw [← arr_swp (itemA false) (by omega) (by omega)];exact ⟨by exact Lk.f,by exact Sub.f⟩)
 subst hfold
 clear hc h h1 h2 hpr hi2 hj2 hge hle hge2 hr hrow hu0 hu hsz hi hj hy y i2 j2 i j u
 rintro i j u ⟨hai,hij,hjb,hu,hfold⟩
 rw [partLoop_eq] at hfold
 obtain ⟨i2,hi2⟩:∃ i2,scanUp (fun x=>(ltOf cf) x u[a]!) u j i = i2:=⟨_,rfl⟩
 rw [hi2] at hfold
 obtain ⟨j2,hj2⟩:∃ j2,scanDown (fun x=>!(ltOf cf) x u[a]!) u i2 j = j2:=⟨_,rfl⟩
 rw [hj2] at hfold
 have hge:=scanUp_ge (fun x=>(ltOf cf) x u[a]!) u j i
 have hle:=scanDown_le (fun x=>!(ltOf cf) x u[a]!) u i2 j
 rw [hi2] at hge
 rw [hj2] at hle
 have hge2:i2 ≤ max i (j + 1):=by rw [← hi2];exact scanUp_leT _ _ _ _
 refine AWP.block ?_
 (repeat (first | refine AWP.skip ?_ | refine andThen_n ?_ | refine AWP.seq ?_))
 refine AWP.joinS (fun k:Nat=>k = i2) (fun k=>⟨[(0,.sl X 0 n),(1,iA a),(4,.fn f cap),(12,iA k),(13,iA j)],(X,.row 55 3 (u.toList.map (itemA false))) :: Sf⟩) ?_ ?_
 ·refine AWP.block ?_
  refine AWP.lp (fun (k:Nat)=>⟨[(0,.sl X 0 n),(1,iA a),(4,.fn f cap),(12,iA k),(13,iA j)],(X,.row 55 3 (u.toList.map (itemA false))) :: Sf⟩) (fun k=>i ≤ k ∧ k ≤ max i (j + 1) ∧ scanUp (fun x=>(ltOf cf) x u[a]!) u j k = i2) (fun k=>j + 1 - k) i ⟨Nat.le_refl _,by omega,hi2⟩ ?_
  rintro k ⟨hk1,hk2,hk⟩
  rw [scanUp] at hk
  rcases Bool.eq_false_or_eq_true (decide ((k:Int) ≤ (j:Int))) with g | g
  ·have hg:k ≤ j:=by have:=of_decide_eq_true g;omega
   have h1:=arr_at (itemA false) (d:=u) (i:=k) (by omega)
   have h2:=arr_at (itemA false) (d:=u) (i:=a) (by omega)
   have hl:=hcf (u[k]!) (u[a]!)
   (repeat refine WF ?_)
   (repeat refine WF ?_);refine AWP.region_run (by kernel_rfl) (by kernel_rfl) ?_;(repeat (first | (refine RGo.gN ?_;first | (refine RGo.g_callv ?_;first | refine RGo.k2 (h:=(hl ..)) (k:=?_))) | (refine RGo.gQ ?_;first | (refine RGo.g_callv ?_;first | refine RGo.k2 (h:=(hl ..)) (k:=?_))) | refine RK ?_ | refine RGo.nil (by kernel_rfl) ?_))
   (repeat refine WF ?_)
   refine AWP.cond rfl (fun hd=>?_) (fun hd=>?_)
   ·have hd:((ltOf cf) u[k]! u[a]!) = true:=by simpa [g,ltOf] using hd
    rw [if_pos (by rw [Bool.and_eq_true];exact ⟨decide_eq_true (by omega),hd⟩)] at hk
    (repeat (first | refine WK ?_ | refine All.i fun X=>?_ | refine AllY.i fun Y=>?_))
    exact lp_next (k + 1) ⟨by omega,by omega,hk⟩
   ·have hd:((ltOf cf) u[k]! u[a]!) = false:=by simpa [g,ltOf] using hd
    rw [if_neg (fun e=>by rw [Bool.and_eq_true] at e;have e2:=e.2;rw [hd] at e2;cases e2)] at hk
    (repeat (first | refine WK ?_ | refine All.i fun X=>?_ | refine AllY.i fun Y=>?_))
    exact jn k hk
  ·have hg:¬ k ≤ j:=by have:=of_decide_eq_false g;omega
   rw [if_neg (fun e=>by rw [Bool.and_eq_true] at e;have:=of_decide_eq_true e.1;omega)] at hk
   (repeat refine WF ?_)
   (repeat refine WF ?_);refine AWP.region_run (by kernel_rfl) (by kernel_rfl) ?_;(repeat (first | refine RK ?_ | refine RGo.nil (by kernel_rfl) ?_))
   (repeat refine WF ?_)
   refine AWP.cond_f rfl (by simp [g]) ?_
   (repeat (first | refine WK ?_ | refine All.i fun X=>?_ | refine AllY.i fun Y=>?_))
   exact jn k hk
 rintro k hk0
 rw [hk0]
 clear hk0 k
 (repeat (first | refine AWP.skip ?_ | refine andThen_n ?_ | refine AWP.seq ?_))
 refine AWP.joinS (fun k:Nat=>k = j2) (fun k=>⟨[(0,.sl X 0 n),(1,iA a),(4,.fn f cap),(12,iA i2),(13,iA k)],(X,.row 55 3 (u.toList.map (itemA false))) :: Sf⟩) ?_ ?_
 ·refine AWP.block ?_
  refine AWP.lp (fun (k:Nat)=>⟨[(0,.sl X 0 n),(1,iA a),(4,.fn f cap),(12,iA i2),(13,iA k)],(X,.row 55 3 (u.toList.map (itemA false))) :: Sf⟩) (fun k=>k ≤ j ∧ scanDown (fun x=>!(ltOf cf) x u[a]!) u i2 k = j2) (fun k=>k) j ⟨Nat.le_refl _,hj2⟩ ?_
  rintro k ⟨hk1,hk⟩
  rcases Bool.eq_false_or_eq_true (decide ((i2:Int) ≤ (k:Int))) with g | g
  ·have hg:i2 ≤ k:=by have:=of_decide_eq_true g;omega
   obtain ⟨q,rfl⟩:∃ q,k = q + 1:=⟨k - 1,by omega⟩
   rw [scanDown] at hk
   have h1:=arr_at (itemA false) (d:=u) (i:=q + 1) (by omega)
   have h2:=arr_at (itemA false) (d:=u) (i:=a) (by omega)
   have hl:=hcf (u[q + 1]!) (u[a]!)
   (repeat refine WF ?_)
   (repeat refine WF ?_);refine AWP.region_run (by kernel_rfl) (by kernel_rfl) ?_;(repeat (first | (refine RGo.gN ?_;first | (refine RGo.g_callv ?_;first | refine RGo.k2 (h:=(hl ..)) (k:=?_))) | (refine RGo.gQ ?_;first | (refine RGo.g_callv ?_;first | refine RGo.k2 (h:=(hl ..)) (k:=?_))) | refine RK ?_ | refine RGo.nil (by kernel_rfl) ?_))
   (repeat refine WF ?_)
   refine AWP.cond rfl (fun hd=>?_) (fun hd=>?_)
   ·have hd:(!(ltOf cf) u[q + 1]! u[a]!) = true:=by simpa [g,ltOf] using hd
    rw [if_pos (by rw [Bool.and_eq_true];exact ⟨decide_eq_true (by omega),hd⟩)] at hk
    (repeat (first | (refine AOps.gN ?_;first | refine AOps.p (W.subE ((q:Int)) (by omega) (by omega) rfl rfl) rfl ?_) | refine WK ?_ | refine All.i fun X=>?_ | refine AllY.i fun Y=>?_))
    exact lp_next q ⟨by omega,hk⟩
   ·have hd:(!(ltOf cf) u[q + 1]! u[a]!) = false:=by simpa [g,ltOf] using hd
    rw [if_neg (fun e=>by rw [Bool.and_eq_true] at e;have e2:=e.2;rw [hd] at e2;cases e2)] at hk
    (repeat (first | refine WK ?_ | refine All.i fun X=>?_ | refine AllY.i fun Y=>?_))
    exact jn (q + 1) hk
  ·have hg:¬ i2 ≤ k:=by have:=of_decide_eq_false g;omega
   have hk3:scanDown (fun x=>!(ltOf cf) x u[a]!) u i2 k = k:=by
    cases k with
    | zero=>rfl
    | succ q=>rw [scanDown,if_neg (fun e=>by rw [Bool.and_eq_true] at e;have:=of_decide_eq_true e.1;omega)]
   rw [hk3] at hk
   (repeat refine WF ?_)
   (repeat refine WF ?_);refine AWP.region_run (by kernel_rfl) (by kernel_rfl) ?_;(repeat (first | refine RK ?_ | refine RGo.nil (by kernel_rfl) ?_))
   (repeat refine WF ?_)
   refine AWP.cond_f rfl (by simp [g]) ?_
   (repeat (first | refine WK ?_ | refine All.i fun X=>?_ | refine AllY.i fun Y=>?_))
   exact jn k hk
 rintro k hk0
 rw [hk0]
 clear hk0 k
 (repeat (first | refine WK ?_ | refine All.i fun X=>?_ | refine AllY.i fun Y=>?_))
 refine AWP.cond rfl (fun hc=>?_) (fun hc=>?_)
 ·have h:i2 > j2:=by have:=of_decide_eq_true hc;omega
  rw [if_pos h] at hfold
  subst hfold
  have h1:=arr_at (itemA false) (d:=u) (i:=j2) (by omega)
  have h2:=arr_at (itemA false) (d:=u) (i:=a) (by omega)
  have hrow2:=arr_swp (itemA false) (d:=u) (i:=j2) (j:=a) (by omega) (by omega)
  obtain ⟨y,hy⟩:=arr_set2 (itemA false) (d:=u) (i:=j2) (j:=a) (by omega) u[a]!
  (repeat refine WF ?_)
  (repeat refine WF ?_);refine AWP.region_run (by kernel_rfl) (by kernel_rfl) ?_;(repeat (first | (refine RGo.gN ?_;first | refine RGo.s (W.store rfl rfl (by exact At.f) hy (by exact rfl)) rfl ?_) | (refine RGo.gQ ?_;first | refine RGo.s (W.store rfl rfl (by exact At.f) hy (by exact rfl)) rfl ?_) | refine RK ?_ | refine RGo.nil (by kernel_rfl) ?_))
  (repeat (first | refine WK ?_ | refine All.i fun X=>?_ | refine AllY.i fun Y=>?_))
  (refine AWP.ret ?_;(repeat (first | refine inB_r ?_ | refine andThen_r ?_));refine retQ_r ?_)
  exact Ends.sp [iA j2,bA false] [(X,_)] ⟨rfl,by rw [← hrow2]⟩
 ·have h:¬ i2 > j2:=by have:=of_decide_eq_false hc;omega
  rw [if_neg h] at hfold
  have h1:=arr_at (itemA false) (d:=u) (i:=i2) (by omega)
  have h2:=arr_at (itemA false) (d:=u) (i:=j2) (by omega)
  obtain ⟨y,hy⟩:=arr_set2 (itemA false) (d:=u) (i:=i2) (j:=j2) (by omega) u[j2]!
  (repeat refine WF ?_)
  (repeat refine WF ?_);refine AWP.region_run (by kernel_rfl) (by kernel_rfl) ?_;(repeat (first | (refine RGo.gN ?_;first | refine RGo.s (W.store rfl rfl (by exact At.f) hy (by exact rfl)) rfl ?_) | (refine RGo.gQ ?_;first | refine RGo.s (W.store rfl rfl (by exact At.f) hy (by exact rfl)) rfl ?_) | refine RK ?_ | refine RGo.nil (by kernel_rfl) ?_))
  (repeat (first | (refine AOps.gN ?_;first | refine AOps.p (W.subE (((j2 - 1:Nat):Int)) (by omega) (by omega) rfl rfl) rfl ?_) | refine WK ?_ | refine All.i fun X=>?_ | refine AllY.i fun Y=>?_))
  refine lp_next3 (i2 + 1) (j2 - 1) (swp u i2 j2) ⟨by omega,by omega,by omega,by rw [size_swp];exact hu,hfold⟩ (h0:=by rw [← arr_swp (itemA false) (by omega) (by omega)];exact ⟨by exact Lk.f,by exact Sub.f⟩)
end
section
open Go.Sort
set_option maxHeartbeats 1000000 in
theorem scanSorted_rngT (lt:Item → Item → Bool) (d:Array Item) (b i:Nat):i ≤ scanSorted lt d b i ∧ scanSorted lt d b i ≤ max i b:=by
 obtain ⟨m,hm⟩:∃ m,b - i = m:=⟨_,rfl⟩
 induction m generalizing i with
 | zero=>rw [scanSorted,if_neg (fun e=>by rw [Bool.and_eq_true] at e;have:=of_decide_eq_true e.1;omega)];omega
 | succ m ih =>
  rw [scanSorted]
  split
  ·have:=ih (i + 1) (by omega)
   omega
  ·omega
theorem pinsT_po (f:FuncId) (cap:List AV) (cf:Item → Item → Int) (hst:st1s cap = true) (hcf:∀ x y,PS Tryz.prog f ((itemA false) x :: (itemA false) y :: cap) (iA (cf x y))) (X n:Nat) (d:Array Item) (a b:Nat) (hn:n = d.size) (hab:a < b) (hb:b ≤ d.size) (hz:d.size ≤ 1099511627776):PO Tryz.prog 125 [.sl X 0 n,iA a,iA b,.fn f cap] X (.row 55 3 (d.toList.map (itemA false))) (bA (partialInsertionSort (ltOf cf) d a b).2) (.row 55 3 ((partialInsertionSort (ltOf cf) d a b).1.toList.map (itemA false))):=by
 obtain ⟨r,hr⟩:∃ r,partialInsertionSort (ltOf cf) d a b = r:=⟨_,rfl⟩
 rw [hr]
 unfold partialInsertionSort at hr
 refine Spec.of (nt:=141) (res:=[.tmp 8]) Tryz.func125 rfl (by kernel_rfl) rfl rfl rfl fun Sf=>?_
 (repeat (first | (refine AOps.gN ?_;first | refine AOps.p (W.addE (((a + 1:Nat):Int)) (by omega) (by omega) rfl rfl) rfl ?_) | refine WK ?_ | refine All.i fun X=>?_ | refine AllY.i fun Y=>?_))
 refine AWP.lp3 (fun (c i:Nat) (u:Array Item)=>⟨[(0,.sl X 0 n),(1,iA a),(2,iA b),(3,.fn f cap),(9,iA i),(10,iA c)],(X,.row 55 3 (u.toList.map (itemA false))) :: Sf⟩) (fun c i u=>c ≤ 5 ∧ a < i ∧ i ≤ b ∧ u.size = d.size ∧ partialIns (ltOf cf) a b (5 - c) i u = r) (fun c _ _=>5 - c) 0 (a + 1) d ⟨by omega,by omega,by omega,rfl,hr⟩ ?_
 rintro c i u ⟨hc5,hai,hib,hu,hfold⟩
 (repeat (first | refine WK ?_ | refine All.i fun X=>?_ | refine AllY.i fun Y=>?_))
 refine AWP.cond rfl (fun hc=>?_) (fun hc=>?_)
 ·have h:c < 5:=by have:=of_decide_eq_true hc;omega
  obtain ⟨s,hs⟩:∃ s,5 - c = s + 1:=⟨4 - c,by omega⟩
  rw [hs,partialIns_succ] at hfold
  obtain ⟨i2,hi2⟩:∃ i2,scanSorted (ltOf cf) u b i = i2:=⟨_,rfl⟩
  rw [hi2] at hfold
  have hrg:=scanSorted_rngT (ltOf cf) u b i
  rw [hi2] at hrg
  (repeat (first | refine AWP.skip ?_ | refine andThen_n ?_ | refine AWP.seq ?_))
  refine AWP.block ?_
  (repeat (first | refine AWP.skip ?_ | refine andThen_n ?_ | refine AWP.seq ?_))
  refine AWP.joinS (fun k:Nat=>k = i2) (fun k=>⟨[(0,.sl X 0 n),(1,iA a),(2,iA b),(3,.fn f cap),(9,iA k),(10,iA c)],(X,.row 55 3 (u.toList.map (itemA false))) :: Sf⟩) ?_ ?_
  ·refine AWP.block ?_
   refine AWP.lp (fun (k:Nat)=>⟨[(0,.sl X 0 n),(1,iA a),(2,iA b),(3,.fn f cap),(9,iA k),(10,iA c)],(X,.row 55 3 (u.toList.map (itemA false))) :: Sf⟩) (fun k=>i ≤ k ∧ k ≤ b ∧ scanSorted (ltOf cf) u b k = i2) (fun k=>b - k) i ⟨Nat.le_refl _,hib,hi2⟩ ?_
   rintro k ⟨hk1,hk2,hk⟩
   rw [scanSorted] at hk
   rcases Bool.eq_false_or_eq_true (decide ((k:Int) < (b:Int))) with g | g
   ·have hg:k < b:=by have:=of_decide_eq_true g;omega
    have h1:=arr_at (itemA false) (d:=u) (i:=k) (by omega)
    have h2:=arr_at (itemA false) (d:=u) (i:=k - 1) (by omega)
    have hl:=hcf (u[k]!) (u[k - 1]!)
    (repeat refine WF ?_)
    (repeat refine WF ?_);refine AWP.region_run (by kernel_rfl) (by kernel_rfl) ?_;(repeat (first | (refine RGo.gN ?_;first | (refine RGo.g_callv ?_;first | refine RGo.k2 (h:=(hl ..)) (k:=?_)) | refine RGo.go (h:=W.subE (((k - 1:Nat):Int)) (by omega) (by omega) rfl rfl) (k:=?_)) | (refine RGo.gQ ?_;first | (refine RGo.g_callv ?_;first | refine RGo.k2 (h:=(hl ..)) (k:=?_)) | refine RGo.go (h:=W.subE (((k - 1:Nat):Int)) (by omega) (by omega) rfl rfl) (k:=?_)) | refine RK ?_ | refine RGo.nil (by kernel_rfl) ?_))
    (repeat refine WF ?_)
    refine AWP.cond rfl (fun hd=>?_) (fun hd=>?_)
    ·have hd:(!(ltOf cf) u[k]! u[k - 1]!) = true:=by simpa [g,ltOf] using hd
     rw [if_pos (by rw [Bool.and_eq_true];exact ⟨decide_eq_true (by omega),hd⟩)] at hk
     (repeat (first | refine WK ?_ | refine All.i fun X=>?_ | refine AllY.i fun Y=>?_))
     exact lp_next (k + 1) ⟨by omega,by omega,hk⟩
    ·have hd:(!(ltOf cf) u[k]! u[k - 1]!) = false:=by simpa [g,ltOf] using hd
     rw [if_neg (fun e=>by rw [Bool.and_eq_true] at e;have e2:=e.2;rw [hd] at e2;cases e2)] at hk
     (repeat (first | refine WK ?_ | refine All.i fun X=>?_ | refine AllY.i fun Y=>?_))
     exact jn k hk
   ·have hg:¬ k < b:=by have:=of_decide_eq_false g;omega
    rw [if_neg (fun e=>by rw [Bool.and_eq_true] at e;have:=of_decide_eq_true e.1;omega)] at hk
    (repeat refine WF ?_)
    (repeat refine WF ?_);refine AWP.region_run (by kernel_rfl) (by kernel_rfl) ?_;(repeat (first | refine RK ?_ | refine RGo.nil (by kernel_rfl) ?_))
    (repeat refine WF ?_)
    refine AWP.cond_f rfl (by simp [g]) ?_
    (repeat (first | refine WK ?_ | refine All.i fun X=>?_ | refine AllY.i fun Y=>?_))
    exact jn k hk
  rintro k hk0
  rw [hk0]
  clear hk0 k
  (repeat (first | refine WK ?_ | refine All.i fun X=>?_ | refine AllY.i fun Y=>?_))
  refine AWP.cond rfl (fun hd=>?_) (fun hd=>?_)
  ·have hd:i2 = b:=by have:=of_decide_eq_true hd;omega
   rw [if_pos hd] at hfold
   subst hfold
   (repeat (first | refine WK ?_ | refine All.i fun X=>?_ | refine AllY.i fun Y=>?_))
   (refine AWP.ret ?_;(repeat (first | refine inB_r ?_ | refine andThen_r ?_));refine retQ_r ?_)
   exact Ends.sp [bA true] [(X,_)] ⟨rfl,rfl⟩
  have hd:¬ i2 = b:=by have:=of_decide_eq_false hd;omega
  rw [if_neg hd] at hfold
  (repeat (first | (refine AOps.gN ?_;first | refine AOps.p (W.subE (((b - a:Nat):Int)) (by omega) (by omega) rfl rfl) rfl ?_) | refine WK ?_ | refine All.i fun X=>?_ | refine AllY.i fun Y=>?_))
  refine AWP.cond rfl (fun he=>?_) (fun he=>?_)
  ·have he:b - a < 50:=by have:=of_decide_eq_true he;omega
   rw [if_pos he] at hfold
   subst hfold
   (repeat (first | refine WK ?_ | refine All.i fun X=>?_ | refine AllY.i fun Y=>?_))
   (refine AWP.ret ?_;(repeat (first | refine inB_r ?_ | refine andThen_r ?_));refine retQ_r ?_)
   exact Ends.sp [bA false] [(X,_)] ⟨rfl,rfl⟩
  have he:¬ b - a < 50:=by have:=of_decide_eq_false he;omega
  rw [if_neg he] at hfold
  have h1:=arr_at (itemA false) (d:=u) (i:=i2) (by omega)
  have h2:=arr_at (itemA false) (d:=u) (i:=i2 - 1) (by omega)
  have hrow:=arr_swp (itemA false) (d:=u) (i:=i2) (j:=i2 - 1) (by omega) (by omega)
  obtain ⟨y,hy⟩:=arr_set2 (itemA false) (d:=u) (i:=i2) (j:=i2 - 1) (by omega) u[i2 - 1]!
  have hvs:(swp u i2 (i2 - 1)).size = d.size:=by rw [size_swp];exact hu
  (repeat refine WF ?_)
  (repeat refine WF ?_);refine AWP.region_run (by kernel_rfl) (by kernel_rfl) ?_;(repeat (first | (refine RGo.gN ?_;first | refine RGo.go (h:=W.subE (((i2 - 1:Nat):Int)) (by omega) (by omega) rfl rfl) (k:=?_) | refine RGo.s (W.store rfl rfl (by exact At.f) hy (by exact rfl)) rfl ?_) | (refine RGo.gQ ?_;first | refine RGo.go (h:=W.subE (((i2 - 1:Nat):Int)) (by omega) (by omega) rfl rfl) (k:=?_) | refine RGo.s (W.store rfl rfl (by exact At.f) hy (by exact rfl)) rfl ?_) | refine RK ?_ | refine RGo.nil (by kernel_rfl) ?_))
  obtain ⟨v,hv⟩:∃ v,swp u i2 (i2 - 1) = v:=⟨_,rfl⟩
  rw [hv] at hrow hvs hfold
  refine AWP.as [(0,.sl X 0 n),(1,iA a),(2,iA b),(3,.fn f cap),(9,iA i2),(10,iA c)] ((X,.row 55 3 (v.toList.map (itemA false))) :: Sf) ?_ (h:=by rw [← hrow];exact ⟨by exact Lk.f,by exact Sub.f⟩)
  (repeat (first | (refine AOps.gN ?_;first | refine AOps.p (W.subE (((i2 - a:Nat):Int)) (by omega) (by omega) rfl rfl) rfl ?_) | refine WK ?_ | refine All.i fun X=>?_ | refine AllY.i fun Y=>?_))
  refine AWP.joinS (fun w:Array Item=>w.size = d.size ∧ w = fixDown (ltOf cf) a i2 v) (fun w=>⟨[(0,.sl X 0 n),(1,iA a),(2,iA b),(3,.fn f cap),(9,iA i2),(10,iA c)],(X,.row 55 3 (w.toList.map (itemA false))) :: Sf⟩) ?_ ?_
  ·unfold fixDown
   refine AWP.cond rfl (fun hf=>?_) (fun hf=>?_)
   ·have hf:i2 - a ≥ 2:=by have:=of_decide_eq_true hf;omega
    rw [if_pos hf]
    (repeat (first | (refine AOps.gN ?_;first | refine AOps.p (W.subE (((i2 - 1:Nat):Int)) (by omega) (by omega) rfl rfl) rfl ?_) | refine WK ?_ | refine All.i fun X=>?_ | refine AllY.i fun Y=>?_))
    refine AWP.lp2 (fun (k:Nat) (w:Array Item)=>⟨[(0,.sl X 0 n),(1,iA a),(2,iA b),(3,.fn f cap),(9,iA i2),(10,iA c),(11,iA k)],(X,.row 55 3 (w.toList.map (itemA false))) :: Sf⟩) (fun k w=>k < b ∧ w.size = d.size ∧ shiftDown (ltOf cf) k w = shiftDown (ltOf cf) (i2 - 1) v) (fun k _=>k) (i2 - 1) v ⟨by omega,hvs,rfl⟩ ?_
    rintro k w ⟨hkb,hw,hk⟩
    (repeat (first | refine WK ?_ | refine All.i fun X=>?_ | refine AllY.i fun Y=>?_))
    refine AWP.cond rfl (fun hg=>?_) (fun hg=>?_)
    ·obtain ⟨q,rfl⟩:∃ q,k = q + 1:=⟨k - 1,by have:=of_decide_eq_true hg;omega⟩
     rw [shiftDown] at hk
     have h1:=arr_at (itemA false) (d:=w) (i:=q + 1) (by omega)
     have h2:=arr_at (itemA false) (d:=w) (i:=q) (by omega)
     have hl:=hcf (w[q + 1]!) (w[q]!)
     (repeat refine WF ?_)
     (repeat refine WF ?_);refine AWP.region_run (by kernel_rfl) (by kernel_rfl) ?_;(repeat (first | (refine RGo.gN ?_;first | (refine RGo.g_callv ?_;first | refine RGo.k2 (h:=(hl ..)) (k:=?_)) | refine RGo.go (h:=W.subE ((q:Int)) (by omega) (by omega) rfl rfl) (k:=?_)) | (refine RGo.gQ ?_;first | (refine RGo.g_callv ?_;first | refine RGo.k2 (h:=(hl ..)) (k:=?_)) | refine RGo.go (h:=W.subE ((q:Int)) (by omega) (by omega) rfl rfl) (k:=?_)) | refine RK ?_ | refine RGo.nil (by kernel_rfl) ?_))
     (repeat refine WF ?_)
     refine AWP.cond rfl (fun hd=>?_) (fun hd=>?_)
     ·have hd:(!(ltOf cf) w[q + 1]! w[q]!) = true:=by simpa [ltOf] using hd
      rw [if_pos hd] at hk
      (repeat (first | refine WK ?_ | refine All.i fun X=>?_ | refine AllY.i fun Y=>?_))
      exact jn w ⟨hw,hk⟩
     ·have hd:(!(ltOf cf) w[q + 1]! w[q]!) = false:=by simpa [ltOf] using hd
      rw [if_neg (by rw [hd];simp)] at hk
      clear y hy
      obtain ⟨y,hy⟩:=arr_set2 (itemA false) (d:=w) (i:=q + 1) (j:=q) (by omega) w[q]!
      (repeat refine WF ?_)
      (repeat refine WF ?_);refine AWP.region_run (by kernel_rfl) (by kernel_rfl) ?_;(repeat (first | (refine RGo.gN ?_;first | refine RGo.go (h:=W.subE ((q:Int)) (by omega) (by omega) rfl rfl) (k:=?_) | refine RGo.s (W.store rfl rfl (by exact At.f) hy (by exact rfl)) rfl ?_) | (refine RGo.gQ ?_;first | refine RGo.go (h:=W.subE ((q:Int)) (by omega) (by omega) rfl rfl) (k:=?_) | refine RGo.s (W.store rfl rfl (by exact At.f) hy (by exact rfl)) rfl ?_) | refine RK ?_ | refine RGo.nil (by kernel_rfl) ?_))
      (repeat (first | (refine AOps.gN ?_;first | refine AOps.p (W.subE ((q:Int)) (by omega) (by omega) rfl rfl) rfl ?_) | refine WK ?_ | refine All.i fun X=>?_ | refine AllY.i fun Y=>?_))
      refine lp_next2 q (swp w (q + 1) q) ⟨by omega,by rw [size_swp];exact hw,hk⟩ (h0:=by rw [← arr_swp (itemA false) (by omega) (by omega)];exact ⟨by exact Lk.f,by exact Sub.f⟩)
    ·obtain rfl:k = 0:=by have:=of_decide_eq_false hg;omega
     rw [shiftDown] at hk
     (repeat (first | refine WK ?_ | refine All.i fun X=>?_ | refine AllY.i fun Y=>?_))
     exact jn w ⟨hw,hk⟩
   ·have hf:¬ i2 - a ≥ 2:=by have:=of_decide_eq_false hf;omega
    rw [if_neg hf]
    (repeat (first | refine WK ?_ | refine All.i fun X=>?_ | refine AllY.i fun Y=>?_))
    exact jn v ⟨hvs,rfl⟩
  rintro w ⟨hws,hw0⟩
  rw [← hw0] at hfold
  clear hw0 hrow y hy h1 h2
  (repeat (first | (refine AOps.gN ?_;first | refine AOps.p (W.subE (((b - i2:Nat):Int)) (by omega) (by omega) rfl rfl) rfl ?_) | refine WK ?_ | refine All.i fun X=>?_ | refine AllY.i fun Y=>?_))
  refine AWP.joinB (fun z:Array Item=>z.size = d.size ∧ z = fixUp (ltOf cf) b i2 w) (fun z=>⟨[(0,.sl X 0 n),(1,iA a),(2,iA b),(3,.fn f cap),(9,iA i2),(10,iA c)],(X,.row 55 3 (z.toList.map (itemA false))) :: Sf⟩) ?_ ?_
  ·unfold fixUp
   refine AWP.cond rfl (fun hf=>?_) (fun hf=>?_)
   ·have hf:b - i2 ≥ 2:=by have:=of_decide_eq_true hf;omega
    rw [if_pos hf]
    (repeat (first | (refine AOps.gN ?_;first | refine AOps.p (W.addE (((i2 + 1:Nat):Int)) (by omega) (by omega) rfl rfl) rfl ?_) | refine WK ?_ | refine All.i fun X=>?_ | refine AllY.i fun Y=>?_))
    refine AWP.lp2 (fun (k:Nat) (z:Array Item)=>⟨[(0,.sl X 0 n),(1,iA a),(2,iA b),(3,.fn f cap),(9,iA i2),(10,iA c),(12,iA k)],(X,.row 55 3 (z.toList.map (itemA false))) :: Sf⟩) (fun k z=>i2 < k ∧ k ≤ b ∧ z.size = d.size ∧ shiftUp (ltOf cf) b k z = shiftUp (ltOf cf) b (i2 + 1) w) (fun k _=>b - k) (i2 + 1) w ⟨by omega,by omega,hws,rfl⟩ ?_
    rintro k z ⟨hik,hkb,hz1,hk⟩
    rw [shiftUp] at hk
    (repeat (first | refine WK ?_ | refine All.i fun X=>?_ | refine AllY.i fun Y=>?_))
    refine AWP.cond rfl (fun hg=>?_) (fun hg=>?_)
    ·have hg:k < b:=by have:=of_decide_eq_true hg;omega
     rw [if_pos hg] at hk
     have h1:=arr_at (itemA false) (d:=z) (i:=k) (by omega)
     have h2:=arr_at (itemA false) (d:=z) (i:=k - 1) (by omega)
     have hl:=hcf (z[k]!) (z[k - 1]!)
     (repeat refine WF ?_)
     (repeat refine WF ?_);refine AWP.region_run (by kernel_rfl) (by kernel_rfl) ?_;(repeat (first | (refine RGo.gN ?_;first | (refine RGo.g_callv ?_;first | refine RGo.k2 (h:=(hl ..)) (k:=?_)) | refine RGo.go (h:=W.subE (((k - 1:Nat):Int)) (by omega) (by omega) rfl rfl) (k:=?_)) | (refine RGo.gQ ?_;first | (refine RGo.g_callv ?_;first | refine RGo.k2 (h:=(hl ..)) (k:=?_)) | refine RGo.go (h:=W.subE (((k - 1:Nat):Int)) (by omega) (by omega) rfl rfl) (k:=?_)) | refine RK ?_ | refine RGo.nil (by kernel_rfl) ?_))
     (repeat refine WF ?_)
     refine AWP.cond rfl (fun hd=>?_) (fun hd=>?_)
     ·have hd:(!(ltOf cf) z[k]! z[k - 1]!) = true:=by simpa [ltOf] using hd
      rw [if_pos hd] at hk
      (repeat (first | refine WK ?_ | refine All.i fun X=>?_ | refine AllY.i fun Y=>?_))
      exact jn z ⟨hz1,hk⟩
     ·have hd:(!(ltOf cf) z[k]! z[k - 1]!) = false:=by simpa [ltOf] using hd
      rw [if_neg (by rw [hd];simp)] at hk
      obtain ⟨y,hy⟩:=arr_set2 (itemA false) (d:=z) (i:=k) (j:=k - 1) (by omega) z[k - 1]!
      (repeat refine WF ?_)
      (repeat refine WF ?_);refine AWP.region_run (by kernel_rfl) (by kernel_rfl) ?_;(repeat (first | (refine RGo.gN ?_;first | refine RGo.go (h:=W.subE (((k - 1:Nat):Int)) (by omega) (by omega) rfl rfl) (k:=?_) | refine RGo.s (W.store rfl rfl (by exact At.f) hy (by exact rfl)) rfl ?_) | (refine RGo.gQ ?_;first | refine RGo.go (h:=W.subE (((k - 1:Nat):Int)) (by omega) (by omega) rfl rfl) (k:=?_) | refine RGo.s (W.store rfl rfl (by exact At.f) hy (by exact rfl)) rfl ?_) | refine RK ?_ | refine RGo.nil (by kernel_rfl) ?_))
      (repeat (first | refine WK ?_ | refine All.i fun X=>?_ | refine AllY.i fun Y=>?_))
      refine lp_next2 (k + 1) (swp z k (k - 1)) ⟨by omega,by omega,by rw [size_swp];exact hz1,hk⟩ (h0:=by rw [← arr_swp (itemA false) (by omega) (by omega)];exact ⟨by exact Lk.f,by exact Sub.f⟩)
    ·have hg:¬ k < b:=by have:=of_decide_eq_false hg;omega
     rw [if_neg hg] at hk
     (repeat (first | refine WK ?_ | refine All.i fun X=>?_ | refine AllY.i fun Y=>?_))
     exact jn z ⟨hz1,hk⟩
   ·have hf:¬ b - i2 ≥ 2:=by have:=of_decide_eq_false hf;omega
    rw [if_neg hf]
    (repeat (first | refine WK ?_ | refine All.i fun X=>?_ | refine AllY.i fun Y=>?_))
    exact jn w ⟨hws,rfl⟩
  rintro z ⟨hzs,hz0⟩
  rw [← hz0] at hfold
  (repeat (first | refine WK ?_ | refine All.i fun X=>?_ | refine AllY.i fun Y=>?_))
  refine lp_next3 (c + 1) i2 z ⟨by omega,by omega,by omega,hzs,by rw [show 5 - (c + 1) = s by omega];exact hfold⟩
 ·have h:c = 5:=by have:=of_decide_eq_false hc;omega
  subst h
  rw [show 5 - 5 = 0 from rfl,partialIns] at hfold
  subst hfold
  (repeat (first | refine WK ?_ | refine All.i fun X=>?_ | refine AllY.i fun Y=>?_))
  (refine AWP.ret ?_;(repeat (first | refine inB_r ?_ | refine andThen_r ?_));refine retQ_r ?_)
  exact Ends.sp [bA false] [(X,_)] ⟨rfl,rfl⟩
end
section
open Go.Sort
set_option maxHeartbeats 1000000 in
theorem brkT_sp {f:FuncId} {cap:List AV} (X n:Nat) (d:Array Item) (a b:Nat) (hn:n = d.size) (hab:a ≤ b) (hb:b ≤ d.size) (hz:d.size < 65536):Spec Tryz.prog 122 [.sl X 0 n,iA a,iA b,.fn f cap] [(X,.row 55 3 (d.toList.map (itemA false)))] fun r S'=>∃ u:Array Item,PermIn a b d u ∧ r = .tup [] ∧ S' = [(X,.row 55 3 (u.toList.map (itemA false)))]:=by
 obtain ⟨l,hl⟩:∃ l,b - a = l:=⟨_,rfl⟩
 refine Spec.of (nt:=67) (res:=[]) Tryz.func122 rfl (by kernel_rfl) rfl rfl rfl fun Sf=>?_
 (repeat (first | (refine AOps.gN ?_;first | refine AOps.p (W.subE ((l:Int)) (by omega) (by omega) rfl rfl) rfl ?_) | refine WK ?_ | refine All.i fun X=>?_ | refine AllY.i fun Y=>?_))
 refine AWP.cond rfl (fun h8=>?_) (fun h8=>?_)
 ·have h8:8 ≤ l:=by have:=of_decide_eq_true h8;omega
  have hnp:=nextPow_ps l (by omega)
  have hbl:bitsLen l ≤ 16:=(bitsLen_le_iff l 16).2 (by omega)
  have hm2:=two_pow_bitsLen_le (n:=l) (by omega)
  obtain ⟨m,hm⟩:∃ m,(1:UInt64) <<< UInt64.ofNat (bitsLen l) = m:=⟨_,rfl⟩
  have hmn:m.toNat = 2 ^ bitsLen l:=by
   have:2 ^ bitsLen l ≤ 2 ^ 16:=Nat.pow_le_pow_right (by decide) hbl
   rw [← hm,UInt64.toNat_shiftLeft,UInt64.toNat_ofNat',show bitsLen l % 2 ^ 64 % 64 = bitsLen l by omega,Nat.shiftLeft_eq,show (1:UInt64).toNat = 1 from rfl]
   omega
  rw [hm] at hnp
  have hp1:1 ≤ 2 ^ bitsLen l:=Nat.one_le_two_pow
  (repeat (first | (refine AOps.gN ?_;first | (refine AOps.g_callf ?_;first | refine AOps.c1 (h:=(hnp ..)) (k:=?_)) | refine AOps.p (W.toUN .i64 l rfl (by omega) (by kernel_rfl) (by kernel_rfl) rfl) rfl ?_ | refine AOps.p (W.quoN l 4 (l / 4) rfl rfl (by omega) rfl (by omega) rfl rfl) rfl ?_ | refine AOps.p (W.mulE ((l / 4 * 2:Nat):Int) (by omega) (by omega) rfl rfl) rfl ?_ | refine AOps.p (W.addE (((a + l / 4 * 2:Nat):Int)) (by omega) (by omega) rfl rfl) rfl ?_ | refine AOps.p (W.subE (((a + l / 4 * 2 - 1:Nat):Int)) (by omega) (by omega) rfl rfl) rfl ?_) | refine WK ?_ | refine All.i fun V=>?_ | refine AllY.i fun Y=>?_))
  refine AWP.lp3 (fun (k:Nat) (s:UInt64) (u:Array Item)=>⟨[(0,.sl X 0 n),(1,iA a),(3,.fn f cap),(8,iA l),(9,.ptr V 0 0),(10,uA m),(11,iA k)],(V,.row 215 1 [uA s]) :: (X,.row 55 3 (u.toList.map (itemA false))) :: Sf⟩) (fun k s u=>a ≤ k ∧ k ≤ a + l / 4 * 2 + 2 ∧ PermIn a b d u) (fun k _ _=>a + l / 4 * 2 + 2 - k) (a + l / 4 * 2 - 1) (UInt64.ofNat l) d ⟨by omega,by omega,permIn_refl _ _ _⟩ ?_
  rintro k s u ⟨hak,hkl,hP⟩
  have hu:u.size = d.size:=hP.1
  (repeat (first | (refine AOps.gN ?_;first | refine AOps.p (W.quoN l 4 (l / 4) rfl rfl (by omega) rfl (by omega) rfl rfl) rfl ?_ | refine AOps.p (W.mulE ((l / 4 * 2:Nat):Int) (by omega) (by omega) rfl rfl) rfl ?_ | refine AOps.p (W.addE (((a + l / 4 * 2:Nat):Int)) (by omega) (by omega) rfl rfl) rfl ?_ | refine AOps.p (W.addE (((a + l / 4 * 2 + 1:Nat):Int)) (by omega) (by omega) rfl rfl) rfl ?_) | refine WK ?_ | refine All.i fun X=>?_ | refine AllY.i fun Y=>?_))
  refine AWP.cond rfl (fun hc=>?_) (fun hc=>?_)
  ·have hk1:k ≤ a + l / 4 * 2 + 1:=by have:=of_decide_eq_true hc;omega
   have hkb:k < b:=by omega
   refine AWP.skip ?_
   refine andThen_n ?_
   refine AWP.seq ?_
   refine AWP.block ?_
   refine AWP.seq ?_
   (repeat refine WF ?_);refine AWP.region ?_;(repeat (first | (refine AOps.gN ?_;first | (refine AOps.g_callf ?_;first | refine AOps.eo1 (h:=xorNext_sp V s) (k:=fun v _=>?_))) | refine WO ?_ | refine All.i fun X=>?_ | refine AllY.i fun Y=>?_))
   have hvb:(v &&& (m - 1)).toNat < 2 * l:=by
    rw [UInt64.toNat_and,UInt64.toNat_sub_of_le _ _ (by rw [UInt64.le_iff_toNat_le,hmn];exact hp1),hmn]
    have:=Nat.and_le_right (n:=v.toNat) (m:=2 ^ bitsLen l - (1:UInt64).toNat)
    have e:(1:UInt64).toNat = 1:=rfl
    omega
   (repeat (first | (refine AOps.gN ?_;first | refine AOps.p (W.subU (b:=1) rfl rfl) rfl ?_ | refine AOps.p (W.andU rfl rfl) rfl ?_ | refine AOps.p (W.ofUN .u64 (by omega) (by kernel_rfl) (by kernel_rfl) rfl) rfl ?_) | refine WO ?_ | refine All.i fun X=>?_ | refine AllY.i fun Y=>?_))
   refine AOps.nil ?_
   (repeat (first | refine AWP.skip ?_ | refine andThen_n ?_ | refine AWP.seq ?_))
   obtain ⟨o,ho⟩:∃ o,(v &&& (m - 1)).toNat = o:=⟨_,rfl⟩
   refine AWP.as [(0,.sl X 0 n),(1,iA a),(3,.fn f cap),(8,iA l),(9,.ptr V 0 0),(10,uA m),(11,iA k),(12,iA o)] ((V,.row 215 1 [uA v]) :: (X,.row 55 3 (u.toList.map (itemA false))) :: Sf) ?_ (h:=by rw [← ho];exact ⟨by exact Lk.f,by exact Sub.f⟩)
   rw [ho] at hvb
   (repeat (first | refine WK ?_ | refine All.i fun X=>?_ | refine AllY.i fun Y=>?_))
   refine AWP.joinS (fun o:Nat=>o < l) (fun o=>⟨[(0,.sl X 0 n),(1,iA a),(3,.fn f cap),(8,iA l),(9,.ptr V 0 0),(10,uA m),(11,iA k),(12,iA o)],(V,.row 215 1 [uA v]) :: (X,.row 55 3 (u.toList.map (itemA false))) :: Sf⟩) ?_ ?_
   ·refine AWP.cond rfl (fun hd=>?_) (fun hd=>?_)
    ·have hd:l ≤ o:=by have:=of_decide_eq_true hd;omega
     (repeat (first | (refine AOps.gN ?_;first | refine AOps.p (W.subE (((o - l:Nat):Int)) (by omega) (by omega) rfl rfl) rfl ?_) | refine WK ?_ | refine All.i fun X=>?_ | refine AllY.i fun Y=>?_))
     exact jn (o - l) (by omega)
    ·have hd:¬ l ≤ o:=by have:=of_decide_eq_false hd;omega
     (repeat (first | refine WK ?_ | refine All.i fun X=>?_ | refine AllY.i fun Y=>?_))
     exact jn o (by omega)
   rintro o hol
   have h1:=arr_at (itemA false) (d:=u) (i:=k) (by omega)
   have h2:=arr_at (itemA false) (d:=u) (i:=a + o) (by omega)
   obtain ⟨y,hy⟩:=arr_set2 (itemA false) (d:=u) (i:=k) (j:=a + o) (by omega) u[a + o]!
   (repeat refine WF ?_)
   (repeat refine WF ?_);refine AWP.region_run (by kernel_rfl) (by kernel_rfl) ?_;(repeat (first | (refine RGo.gN ?_;first | refine RGo.go (h:=W.addE (((a + o:Nat):Int)) (by omega) (by omega) rfl rfl) (k:=?_) | refine RGo.s (W.store rfl rfl (by exact At.f) hy (by exact rfl)) rfl ?_) | (refine RGo.gQ ?_;first | refine RGo.go (h:=W.addE (((a + o:Nat):Int)) (by omega) (by omega) rfl rfl) (k:=?_) | refine RGo.s (W.store rfl rfl (by exact At.f) hy (by exact rfl)) rfl ?_) | refine RK ?_ | refine RGo.nil (by kernel_rfl) ?_))
   (repeat (first | refine WK ?_ | refine All.i fun X=>?_ | refine AllY.i fun Y=>?_))
   refine lp_next3 (k + 1) v (swp u k (a + o)) ⟨by omega,by omega,permIn_trans _ _ _ _ _ hP (swp_permIn _ _ _ _ _ (by omega) (by omega) (by omega) (by omega) (by omega))⟩ (h0:=by rw [← arr_swp (itemA false) (by omega) (by omega)];exact ⟨by exact Lk.f,by exact Sub.f⟩)
  ·(repeat (first | refine WK ?_ | refine All.i fun X=>?_ | refine AllY.i fun Y=>?_))
   refine retQ_n ?_
   exact Ends.void [(X,.row 55 3 (u.toList.map (itemA false)))] ⟨u,hP,rfl,rfl⟩
 ·(repeat (first | refine WK ?_ | refine All.i fun X=>?_ | refine AllY.i fun Y=>?_))
  refine retQ_n ?_
  exact Ends.void [(X,.row 55 3 (d.toList.map (itemA false)))] ⟨d,permIn_refl _ _ _,rfl,rfl⟩
end
section
open Go.Sort
set_option maxHeartbeats 1000000 in
theorem order2T_sp (f:FuncId) (cap:List AV) (cf:Item → Item → Int) (hst:st1s cap = true) (hcf:∀ x y,PS Tryz.prog f ((itemA false) x :: (itemA false) y :: cap) (iA (cf x y))) (X Y n:Nat) (d:Array Item) (a b s:Nat) (hn:n = d.size) (ha:a < d.size) (hb:b < d.size) (hs:s ≤ 1099511627776):Spec Tryz.prog 162 [.sl X 0 n,iA a,iA b,.ptr Y 0 0,.fn f cap] [(X,.row 55 3 (d.toList.map (itemA false))),(Y,.row 3 1 [iA s])] fun r S'=>r = .tup [iA (order2 (ltOf cf) d a b s).1,iA (order2 (ltOf cf) d a b s).2.1] ∧ S' = [(X,.row 55 3 (d.toList.map (itemA false))),(Y,.row 3 1 [iA (order2 (ltOf cf) d a b s).2.2])]:=by
 subst hn
 have h1:=arr_at (itemA false) ha
 have h2:=arr_at (itemA false) hb
 have hl:=hcf (d[b]!) (d[a]!)
 refine Spec.of (nt:=32) (res:=[.tmp 10,.tmp 11]) Tryz.func162 rfl (by kernel_rfl) rfl rfl rfl fun Sf=>?_
 unfold order2
 (repeat refine WF ?_);refine AWP.region ?_;(repeat (first | refine WO ?_ | refine All.i fun X=>?_ | refine AllY.i fun Y=>?_));refine AOps.nil ?_;(repeat refine WN ?_)
 (repeat refine WF ?_);refine AWP.region_run (by kernel_rfl) (by kernel_rfl) ?_;(repeat (first | (refine RGo.gN ?_;first | (refine RGo.g_callv ?_;first | refine RGo.k2 (h:=(hl ..)) (k:=?_))) | (refine RGo.gQ ?_;first | (refine RGo.g_callv ?_;first | refine RGo.k2 (h:=(hl ..)) (k:=?_))) | refine RK ?_ | refine RGo.nil (by kernel_rfl) ?_))
 (repeat refine WF ?_)
 refine AWP.cond rfl (fun hc=>?_) (fun hc=>?_)
 ·have hc:(ltOf cf) d[b]! d[a]! = true:=by simpa [ltOf] using hc
  rw [if_pos hc]
  (repeat (first | refine WK ?_ | refine All.i fun X=>?_ | refine AllY.i fun Y=>?_))
  (refine AWP.ret ?_;(repeat (first | refine inB_r ?_ | refine andThen_r ?_));refine retQ_r ?_)
  exact Ends.sp [iA b,iA a] [(X,_),(Y,_)] ⟨rfl,rfl⟩
 ·have hc:(ltOf cf) d[b]! d[a]! = false:=by simpa [ltOf] using hc
  rw [if_neg (by simp [hc])]
  (repeat (first | refine WK ?_ | refine All.i fun X=>?_ | refine AllY.i fun Y=>?_))
  (refine AWP.ret ?_;(repeat (first | refine inB_r ?_ | refine andThen_r ?_));refine retQ_r ?_)
  exact Ends.sp [iA a,iA b] [(X,_),(Y,_)] ⟨rfl,rfl⟩
set_option maxHeartbeats 1000000 in
theorem medianT_sp (f:FuncId) (cap:List AV) (cf:Item → Item → Int) (hst:st1s cap = true) (hcf:∀ x y,PS Tryz.prog f ((itemA false) x :: (itemA false) y :: cap) (iA (cf x y))) (X Y n:Nat) (d:Array Item) (a b c s:Nat) (hn:n = d.size) (ha:a < d.size) (hb:b < d.size) (hc:c < d.size) (hs:s ≤ 1099511627000):Spec Tryz.prog 153 [.sl X 0 n,iA a,iA b,iA c,.ptr Y 0 0,.fn f cap] [(X,.row 55 3 (d.toList.map (itemA false))),(Y,.row 3 1 [iA s])] fun r S'=>r = iA (median (ltOf cf) d a b c s).1 ∧ S' = [(X,.row 55 3 (d.toList.map (itemA false))),(Y,.row 3 1 [iA (median (ltOf cf) d a b c s).2])]:=by
 obtain ⟨m,hm⟩:∃ m,median (ltOf cf) d a b c s = m:=⟨_,rfl⟩
 rw [hm]
 unfold median at hm
 have l1:=order2_lt (ltOf cf) d a b s _ ha hb
 have e1:=order2_le (ltOf cf) d a b s
 have h1:=order2T_sp f cap cf hst hcf X Y n d a b s hn ha hb (by omega)
 obtain ⟨⟨a1,b1,s1⟩,hr1⟩:∃ r,order2 (ltOf cf) d a b s = r:=⟨_,rfl⟩
 rw [hr1] at h1 hm l1 e1
 dsimp only at h1 hm l1 e1
 have l2:=order2_lt (ltOf cf) d b1 c s1 _ l1.2 hc
 have e2:=order2_le (ltOf cf) d b1 c s1
 have h2:=order2T_sp f cap cf hst hcf X Y n d b1 c s1 hn l1.2 hc (by omega)
 obtain ⟨⟨b2,c2,s2⟩,hr2⟩:∃ r,order2 (ltOf cf) d b1 c s1 = r:=⟨_,rfl⟩
 rw [hr2] at h2 hm l2 e2
 dsimp only at h2 hm l2 e2
 have l3:=order2_lt (ltOf cf) d a1 b2 s2 _ l1.1 l2.1
 have h3:=order2T_sp f cap cf hst hcf X Y n d a1 b2 s2 hn l1.1 l2.1 (by omega)
 obtain ⟨⟨a3,b3,s3⟩,hr3⟩:∃ r,order2 (ltOf cf) d a1 b2 s2 = r:=⟨_,rfl⟩
 rw [hr3] at h3 hm l3
 dsimp only at h3 hm l3
 subst hm
 refine Spec.of (nt:=41) (res:=[.tmp 12]) Tryz.func153 rfl (by kernel_rfl) rfl rfl rfl fun Sf=>?_
 (repeat (first | (refine AOps.gN ?_;first | (refine AOps.g_callf ?_;first | refine AOps.z5 (h:=h1) (hT:=.fz) (k:=?_) | refine AOps.z5 (h:=h2) (hT:=.fz) (k:=?_) | refine AOps.z5 (h:=h3) (hT:=.fz) (k:=?_))) | refine WK ?_ | refine All.i fun X=>?_ | refine AllY.i fun Y=>?_))
 (refine AWP.ret ?_;(repeat (first | refine inB_r ?_ | refine andThen_r ?_));refine retQ_r ?_)
 exact Ends.sp [iA b3] [(X,_),(Y,_)] ⟨rfl,rfl⟩
set_option maxHeartbeats 1000000 in
theorem medAdjT_sp (f:FuncId) (cap:List AV) (cf:Item → Item → Int) (hst:st1s cap = true) (hcf:∀ x y,PS Tryz.prog f ((itemA false) x :: (itemA false) y :: cap) (iA (cf x y))) (X Y n:Nat) (d:Array Item) (a s:Nat) (hn:n = d.size) (ha:a + 1 < d.size) (h0:0 < a) (hz:d.size ≤ 1099511627776) (hs:s ≤ 1099511627000):Spec Tryz.prog 152 [.sl X 0 n,iA a,.ptr Y 0 0,.fn f cap] [(X,.row 55 3 (d.toList.map (itemA false))),(Y,.row 3 1 [iA s])] fun r S'=>r = iA (medianAdjacent (ltOf cf) d a s).1 ∧ S' = [(X,.row 55 3 (d.toList.map (itemA false))),(Y,.row 3 1 [iA (medianAdjacent (ltOf cf) d a s).2])]:=by
 have h1:=medianT_sp f cap cf hst hcf X Y n d (a - 1) a (a + 1) s hn (by omega) (by omega) ha hs
 unfold medianAdjacent
 refine Spec.of (nt:=18) (res:=[.tmp 8]) Tryz.func152 rfl (by kernel_rfl) rfl rfl rfl fun Sf=>?_
 (repeat (first | (refine AOps.gN ?_;first | (refine AOps.g_callf ?_;first | refine AOps.z6 (h:=h1) (hT:=.fz) (k:=?_)) | refine AOps.p (W.subE ((a - 1:Nat):Int) (by omega) (by omega) rfl rfl) rfl ?_ | refine AOps.p (W.addE ((a + 1:Nat):Int) (by omega) (by omega) rfl rfl) rfl ?_) | refine WK ?_ | refine All.i fun X=>?_ | refine AllY.i fun Y=>?_))
 (refine AWP.ret ?_;(repeat (first | refine inB_r ?_ | refine andThen_r ?_));refine retQ_r ?_)
 exact Ends.sp [iA _] [(X,_),(Y,_)] ⟨rfl,rfl⟩
set_option maxHeartbeats 1000000 in
theorem choosePivotT_po (f:FuncId) (cap:List AV) (cf:Item → Item → Int) (hst:st1s cap = true) (hcf:∀ x y,PS Tryz.prog f ((itemA false) x :: (itemA false) y :: cap) (iA (cf x y))) (X n:Nat) (d:Array Item) (a b:Nat) (hn:n = d.size) (hab:a < b) (hb:b ≤ d.size) (hz:d.size ≤ 1099511627776):PO Tryz.prog 123 [.sl X 0 n,iA a,iA b,.fn f cap] X (.row 55 3 (d.toList.map (itemA false))) (.tup [iA (choosePivot (ltOf cf) d a b).1,iA (hintN (choosePivot (ltOf cf) d a b).2)]) (.row 55 3 (d.toList.map (itemA false))):=by
 obtain ⟨c,hc⟩:∃ c,choosePivot (ltOf cf) d a b = c:=⟨_,rfl⟩
 rw [hc]
 unfold choosePivot at hc
 obtain ⟨l,hl⟩:∃ l,b - a = l:=⟨_,rfl⟩
 obtain ⟨i,hi⟩:∃ i,a + l / 4 * 1 = i:=⟨_,rfl⟩
 obtain ⟨j,hj⟩:∃ i,a + l / 4 * 2 = i:=⟨_,rfl⟩
 obtain ⟨k,hk⟩:∃ i,a + l / 4 * 3 = i:=⟨_,rfl⟩
 rw [hl] at hc
 dsimp only at hc
 rw [hi,hj,hk] at hc
 refine Spec.of (nt:=63) (res:=[.tmp 8,.tmp 9]) Tryz.func123 rfl (by kernel_rfl) rfl rfl rfl fun Sf=>?_
 have hlb:l ≤ 1099511627776:=by omega
 (repeat (first | (refine AOps.gN ?_;first | refine AOps.p (W.subE (l:Int) (by omega) (by omega) rfl rfl) rfl ?_ | refine AOps.p (W.quoN l 4 (l / 4) rfl rfl (by omega) rfl (by omega) rfl rfl) rfl ?_ | refine AOps.p (W.mulE ((l / 4 * 1:Nat):Int) (by omega) (by omega) rfl rfl) rfl ?_ | refine AOps.p (W.mulE ((l / 4 * 2:Nat):Int) (by omega) (by omega) rfl rfl) rfl ?_ | refine AOps.p (W.mulE ((l / 4 * 3:Nat):Int) (by omega) (by omega) rfl rfl) rfl ?_ | refine AOps.p (W.addE (i:Int) (by omega) (by omega) rfl rfl) rfl ?_ | refine AOps.p (W.addE (j:Int) (by omega) (by omega) rfl rfl) rfl ?_ | refine AOps.p (W.addE (k:Int) (by omega) (by omega) rfl rfl) rfl ?_) | refine WK ?_ | refine All.i fun V=>?_ | refine AllY.i fun Y=>?_))
 refine AWP.joinS (fun b:Nat × Nat=>c = (b.1,if b.2 = 0 then Hint.increasing else if b.2 = 12 then Hint.decreasing else Hint.unknown)) (fun b=>⟨[(0,.sl X 0 n),(3,.fn f cap),(11,.ptr V 0 0),(13,iA b.1)],(V,.row 3 1 [iA b.2]) :: (X,.row 55 3 (d.toList.map (itemA false))) :: Sf⟩) ?_ ?_
 ·refine AWP.cond rfl (fun h8=>?_) (fun h8=>?_)
  ·have h8:l ≥ 8:=by have:=of_decide_eq_true h8;omega
   rw [if_pos h8] at hc
   (repeat (first | refine WK ?_ | refine All.i fun X=>?_ | refine AllY.i fun Y=>?_))
   refine AWP.joinS (fun b:Nat × Nat × Nat × Nat=>b.1 < d.size ∧ b.2.1 < d.size ∧ b.2.2.1 < d.size ∧ b.2.2.2 ≤ 100 ∧ (if l ≥ 50 then median (ltOf cf) d (medianAdjacent (ltOf cf) d i 0).1 (medianAdjacent (ltOf cf) d j (medianAdjacent (ltOf cf) d i 0).2).1 (medianAdjacent (ltOf cf) d k (medianAdjacent (ltOf cf) d j (medianAdjacent (ltOf cf) d i 0).2).2).1 (medianAdjacent (ltOf cf) d k (medianAdjacent (ltOf cf) d j (medianAdjacent (ltOf cf) d i 0).2).2).2 else median (ltOf cf) d i j k 0) = median (ltOf cf) d b.1 b.2.1 b.2.2.1 b.2.2.2) (fun b=>⟨[(0,.sl X 0 n),(3,.fn f cap),(11,.ptr V 0 0),(12,iA b.1),(13,iA b.2.1),(14,iA b.2.2.1)],(V,.row 3 1 [iA b.2.2.2]) :: (X,.row 55 3 (d.toList.map (itemA false))) :: Sf⟩) ?_ ?_
   ·refine AWP.cond rfl (fun h50=>?_) (fun h50=>?_)
    ·have h50:l ≥ 50:=by have:=of_decide_eq_true h50;omega
     have a1:=medAdj_lt (ltOf cf) d i 0 _ (show i + 1 < d.size by omega)
     have b1:=median_le (ltOf cf) d (i - 1) i (i + 1) 0
     have s1:=medAdjT_sp f cap cf hst hcf X V n d i 0 hn (by omega) (by omega) hz (by omega)
     rw [if_pos h50]
     have e1:(median (ltOf cf) d (i - 1) i (i + 1) 0).2 = (medianAdjacent (ltOf cf) d i 0).2:=rfl
     rw [e1] at b1
     obtain ⟨⟨p1,q1⟩,r1⟩:∃ r,medianAdjacent (ltOf cf) d i 0 = r:=⟨_,rfl⟩
     rw [r1] at a1 b1 s1 ⊢
     dsimp only at a1 b1 s1 ⊢
     have a2:=medAdj_lt (ltOf cf) d j q1 _ (show j + 1 < d.size by omega)
     have b2:=median_le (ltOf cf) d (j - 1) j (j + 1) q1
     have s2:=medAdjT_sp f cap cf hst hcf X V n d j q1 hn (by omega) (by omega) hz (by omega)
     have e2:(median (ltOf cf) d (j - 1) j (j + 1) q1).2 = (medianAdjacent (ltOf cf) d j q1).2:=rfl
     rw [e2] at b2
     obtain ⟨⟨p2,q2⟩,r2⟩:∃ r,medianAdjacent (ltOf cf) d j q1 = r:=⟨_,rfl⟩
     rw [r2] at a2 b2 s2 ⊢
     dsimp only at a2 b2 s2 ⊢
     have a3:=medAdj_lt (ltOf cf) d k q2 _ (show k + 1 < d.size by omega)
     have b3:=median_le (ltOf cf) d (k - 1) k (k + 1) q2
     have s3:=medAdjT_sp f cap cf hst hcf X V n d k q2 hn (by omega) (by omega) hz (by omega)
     have e3:(median (ltOf cf) d (k - 1) k (k + 1) q2).2 = (medianAdjacent (ltOf cf) d k q2).2:=rfl
     rw [e3] at b3
     obtain ⟨⟨p3,q3⟩,r3⟩:∃ r,medianAdjacent (ltOf cf) d k q2 = r:=⟨_,rfl⟩
     rw [r3] at a3 b3 s3 ⊢
     dsimp only at a3 b3 s3 ⊢
     (repeat (first | (refine AOps.gN ?_;first | (refine AOps.g_callf ?_;first | refine AOps.z4 (h:=s1) (hT:=.fz) (k:=?_) | refine AOps.z4 (h:=s2) (hT:=.fz) (k:=?_) | refine AOps.z4 (h:=s3) (hT:=.fz) (k:=?_))) | refine WK ?_ | refine All.i fun X=>?_ | refine AllY.i fun Y=>?_))
     refine jn (p1,p2,p3,q3) ⟨a1,a2,a3,by dsimp only;omega,rfl⟩
    ·have h50:¬ l ≥ 50:=by have:=of_decide_eq_false h50;omega
     rw [if_neg h50]
     (repeat (first | refine WK ?_ | refine All.i fun X=>?_ | refine AllY.i fun Y=>?_))
     refine jn (i,j,k,0) ⟨by dsimp only;omega,by dsimp only;omega,by dsimp only;omega,by dsimp only;omega,rfl⟩
   ·rintro ⟨p1,p2,p3,q⟩ ⟨l1,l2,l3,lq,e⟩
    dsimp only at l1 l2 l3 lq e ⊢
    rw [e] at hc
    have h1:=medianT_sp f cap cf hst hcf X V n d p1 p2 p3 q hn l1 l2 l3 (by omega)
    obtain ⟨⟨r1,r2⟩,hr⟩:∃ r,median (ltOf cf) d p1 p2 p3 q = r:=⟨_,rfl⟩
    rw [hr] at hc h1
    dsimp only at h1
    (repeat (first | (refine AOps.gN ?_;first | (refine AOps.g_callf ?_;first | refine AOps.z6 (h:=h1) (hT:=.fz) (k:=?_))) | refine WK ?_ | refine All.i fun X=>?_ | refine AllY.i fun Y=>?_))
    refine jn (r1,r2) hc.symm
  ·have h8:¬ l ≥ 8:=by have:=of_decide_eq_false h8;omega
   rw [if_neg h8] at hc
   (repeat (first | refine WK ?_ | refine All.i fun X=>?_ | refine AllY.i fun Y=>?_))
   refine jn (j,0) hc.symm
 ·rintro ⟨p,s⟩ hc
  dsimp only at hc ⊢
  subst hc
  (repeat (first | refine WK ?_ | refine All.i fun X=>?_ | refine AllY.i fun Y=>?_))
  refine AWP.cond rfl (fun h0=>?_) (fun h0=>?_)
  ·have h0:s = 0:=by have:=of_decide_eq_true h0;omega
   rw [if_pos h0]
   (repeat (first | refine WK ?_ | refine All.i fun X=>?_ | refine AllY.i fun Y=>?_))
   (refine AWP.ret ?_;(repeat (first | refine inB_r ?_ | refine andThen_r ?_));refine retQ_r ?_)
   exact Ends.sp [iA p,iA 1] [(X,_)] ⟨rfl,rfl⟩
  ·have h0:¬ s = 0:=by have:=of_decide_eq_false h0;omega
   rw [if_neg h0]
   (repeat (first | refine WK ?_ | refine All.i fun X=>?_ | refine AllY.i fun Y=>?_))
   refine AWP.cond rfl (fun h1=>?_) (fun h1=>?_)
   ·have h1:s = 12:=by have:=of_decide_eq_true h1;omega
    rw [if_pos h1]
    (repeat (first | refine WK ?_ | refine All.i fun X=>?_ | refine AllY.i fun Y=>?_))
    (refine AWP.ret ?_;(repeat (first | refine inB_r ?_ | refine andThen_r ?_));refine retQ_r ?_)
    exact Ends.sp [iA p,iA 2] [(X,_)] ⟨rfl,rfl⟩
   ·have h1:¬ s = 12:=by have:=of_decide_eq_false h1;omega
    rw [if_neg h1]
    (repeat (first | refine WK ?_ | refine All.i fun X=>?_ | refine AllY.i fun Y=>?_))
    (refine AWP.ret ?_;(repeat (first | refine inB_r ?_ | refine andThen_r ?_));refine retQ_r ?_)
    exact Ends.sp [iA p,iA 0] [(X,_)] ⟨rfl,rfl⟩
end
section
open Go.Sort
set_option maxHeartbeats 1000000 in
theorem pdqT_sp (f:FuncId) (cap:List AV) (cf:Item → Item → Int) (hst:st1s cap = true) (hcf:∀ x y,PS Tryz.prog f ((itemA false) x :: (itemA false) y :: cap) (iA (cf x y))) (hS:SWO (ltOf cf)):∀ (m X n:Nat) (d:Array Item) (a b limit:Nat),b - a ≤ m → n = d.size → a ≤ b → b ≤ d.size → d.size < 65536 → limit ≤ 1000 → Below (ltOf cf) a b d → Spec Tryz.prog 97 [.sl X 0 n,iA a,iA b,iA limit,.fn f cap] [(X,.row 55 3 (d.toList.map (itemA false)))] fun r S'=>∃ u:Array Item,(PermIn a b d u ∧ SortedIn (ltOf cf) a b u) ∧ r = .tup [] ∧ S' = [(X,.row 55 3 (u.toList.map (itemA false)))]:=by
 intro m
 induction m using Nat.strongRecOn with
 | _ m ih =>
 intro X n d a b limit hm hn hab hb hz hlim hB
 refine Spec.of (nt:=148) (res:=[]) Tryz.func97 rfl (by kernel_rfl) rfl rfl rfl fun Sf=>?_
 (repeat (first | refine WK ?_ | refine All.i fun X=>?_ | refine AllY.i fun Y=>?_))
 refine AWP.lp6 (fun (a b limit:Nat) (wb wp:Bool) (u:Array Item)=>⟨[(0,.sl X 0 n),(1,iA a),(2,iA b),(3,iA limit),(4,.fn f cap),(10,bA wb),(11,bA wp)],(X,.row 55 3 (u.toList.map (itemA false))) :: Sf⟩) (fun a' b' limit wb wp u=>a' ≤ b' ∧ b' ≤ d.size ∧ b' - a' ≤ b - a ∧ limit ≤ 1000 ∧ u.size = d.size ∧ Below (ltOf cf) a' b' u ∧ ∀ R,PermIn a' b' u R → SortedIn (ltOf cf) a' b' R → PermIn a b d R ∧ SortedIn (ltOf cf) a b R) (fun a b _ _ _ _=>b - a) a b limit true true d ⟨hab,hb,Nat.le_refl _,hlim,rfl,hB,fun R h1 h2=>⟨h1,h2⟩⟩ ?_
 rintro a' b' limit wb wp u ⟨hab',hb',hmm,hlim,hu,hB',hG⟩
 obtain ⟨l,hl⟩:∃ l,b' - a' = l:=⟨_,rfl⟩
 refine AWP.block ?_
 (repeat (first | (refine AOps.gN ?_;first | refine AOps.p (W.subE ((l:Int)) (by omega) (by omega) rfl rfl) rfl ?_) | refine WK ?_ | refine All.i fun X=>?_ | refine AllY.i fun Y=>?_))
 refine AWP.cond rfl (fun hc=>?_) (fun hc=>?_)
 ·have hs:=insT_po f cap cf hst hcf X n u a' b' (by omega) hab' (by omega) (by omega)
  obtain ⟨p1,p2⟩:=insertionSort_holds (lt:=(ltOf cf)) hS u a' b' hab' (by omega)
  (repeat (first | (refine AOps.gN ?_;first | (refine AOps.g_callf ?_;first | refine AOps.o4 (h:=(hs ..)) (k:=?_))) | refine WK ?_ | refine All.i fun X=>?_ | refine AllY.i fun Y=>?_))
  (refine AWP.ret ?_;(repeat (first | refine inB_r ?_ | refine andThen_r ?_));refine retQ_r ?_)
  exact Ends.void [(X,_)] ⟨_,hG _ p1 p2,rfl,rfl⟩
 have hl12:12 < l:=by have:=of_decide_eq_false hc;omega
 (repeat (first | refine WK ?_ | refine All.i fun X=>?_ | refine AllY.i fun Y=>?_))
 refine AWP.cond rfl (fun hc=>?_) (fun hc=>?_)
 ·have hs:=heapT_po f cap cf hst hcf X n u a' b' (by omega) (by omega) (by omega) (by omega)
  obtain ⟨p1,p2⟩:=heapSort_holds (lt:=(ltOf cf)) hS u a' b' hab' (by omega)
  (repeat (first | (refine AOps.gN ?_;first | (refine AOps.g_callf ?_;first | refine AOps.o4 (h:=(hs ..)) (k:=?_))) | refine WK ?_ | refine All.i fun X=>?_ | refine AllY.i fun Y=>?_))
  (refine AWP.ret ?_;(repeat (first | refine inB_r ?_ | refine andThen_r ?_));refine retQ_r ?_)
  exact Ends.void [(X,_)] ⟨_,hG _ p1 p2,rfl,rfl⟩
 have hl0:0 < limit:=by have:=of_decide_eq_false hc;omega
 (repeat (first | refine WK ?_ | refine All.i fun X=>?_ | refine AllY.i fun Y=>?_))
 refine AWP.joinS (fun b:Nat × Array Item=>b.1 ≤ 1000 ∧ PermIn a' b' u b.2) (fun b=>⟨[(0,.sl X 0 n),(1,iA a'),(2,iA b'),(3,iA b.1),(4,.fn f cap),(10,bA wb),(11,bA wp),(12,iA l)],(X,.row 55 3 (b.2.toList.map (itemA false))) :: Sf⟩) ?_ ?_
 ·refine AWP.cond rfl (fun hd=>?_) (fun hd=>?_)
  ·have hs:=brkT_sp (f:=f) (cap:=cap) X n u a' b' (by omega) hab' (by omega) (by omega)
   (repeat (first | (refine AOps.gN ?_;first | (refine AOps.g_callf ?_;first | refine AOps.eo4 (h:=hs) (k:=fun v hv=>?_)) | refine AOps.p (W.subE (((limit - 1:Nat):Int)) (by omega) (by omega) rfl rfl) rfl ?_) | refine WK ?_ | refine All.i fun X=>?_ | refine AllY.i fun Y=>?_))
   exact jn (limit - 1,v) ⟨by dsimp only;omega,hv⟩
  ·(repeat (first | refine WK ?_ | refine All.i fun X=>?_ | refine AllY.i fun Y=>?_))
   exact jn (limit,u) ⟨hlim,permIn_refl _ _ _⟩
 rintro ⟨lim1,u1⟩ ⟨hlim1,hP1⟩
 dsimp only at hlim1 hP1 ⊢
 have hu1:u1.size = d.size:=hP1.1.trans hu
 have hpv:=choosePivotT_po f cap cf hst hcf X n u1 a' b' (by omega) (by omega) (by omega) (by omega)
 obtain ⟨c1,c2⟩:=choosePivot_holds (ltOf cf) u1 a' b' (by omega)
 obtain ⟨⟨p,h⟩,hp⟩:∃ c,choosePivot (ltOf cf) u1 a' b' = c:=⟨_,rfl⟩
 rw [hp] at hpv c1 c2
 dsimp only at hpv c1 c2
 obtain ⟨hnum,hhn⟩:∃ hnum,hintN h = hnum:=⟨_,rfl⟩
 rw [hhn] at hpv
 (repeat (first | (refine AOps.gN ?_;first | (refine AOps.g_callf ?_;first | refine AOps.o4 (h:=(hpv ..)) (k:=?_))) | refine WK ?_ | refine All.i fun X=>?_ | refine AllY.i fun Y=>?_))
 refine AWP.joinS (fun b:Nat × Int × Array Item=>a' ≤ b.1 ∧ b.1 < b' ∧ PermIn a' b' u b.2.2) (fun b=>⟨[(0,.sl X 0 n),(1,iA a'),(2,iA b'),(3,iA lim1),(4,.fn f cap),(10,bA wb),(11,bA wp),(12,iA l),(13,iA b.1),(14,iA b.2.1)],(X,.row 55 3 (b.2.2.toList.map (itemA false))) :: Sf⟩) ?_ ?_
 ·refine AWP.cond rfl (fun hd=>?_) (fun hd=>?_)
  ·have hs:=revT_po (f:=f) (cap:=cap) X n u1 a' b' (by omega) (by omega) (by omega) (by omega)
   have hrp:=reverseRange_holds u1 a' b' hab' (by omega)
   (repeat (first | (refine AOps.gN ?_;first | (refine AOps.g_callf ?_;first | refine AOps.o4 (h:=(hs ..)) (k:=?_)) | refine AOps.p (W.subE (((b' - 1:Nat):Int)) (by omega) (by omega) rfl rfl) rfl ?_ | refine AOps.p (W.subE (((p - a':Nat):Int)) (by omega) (by omega) rfl rfl) rfl ?_ | refine AOps.p (W.subE (((b' - 1 - (p - a'):Nat):Int)) (by omega) (by omega) rfl rfl) rfl ?_) | refine WK ?_ | refine All.i fun X=>?_ | refine AllY.i fun Y=>?_))
   exact jn (b' - 1 - (p - a'),1,_) ⟨by dsimp only;omega,by dsimp only;omega,permIn_trans _ _ _ _ _ hP1 hrp⟩
  ·(repeat (first | refine WK ?_ | refine All.i fun X=>?_ | refine AllY.i fun Y=>?_))
   exact jn (p,hnum,u1) ⟨c1,c2,hP1⟩
 rintro ⟨pv,hn2,u2⟩ ⟨c3,c4,hP2⟩
 dsimp only at c3 c4 hP2 ⊢
 have hu2:u2.size = d.size:=hP2.1.trans hu
 have hB2:=hB'.perm (by omega) hP2
 clear hpv hp hhn c1 c2 p h hnum
 refine AWP.seq ?_
 refine AWP.joinR (fun v:Array Item=>PermIn a' b' u v) (fun v=>⟨[(0,.sl X 0 n),(1,iA a'),(2,iA b'),(3,iA lim1),(4,.fn f cap),(10,bA wb),(11,bA wp),(12,iA l),(13,iA pv)],(X,.row 55 3 (v.toList.map (itemA false))) :: Sf⟩) ?_ ?_
 ·(repeat (first | refine WK ?_ | refine All.i fun X=>?_ | refine AllY.i fun Y=>?_))
  refine AWP.cond rfl (fun _=>?_) (fun _=>?_)
  ·have hs:=pinsT_po f cap cf hst hcf X n u2 a' b' (by omega) (by omega) (by omega) (by omega)
   have hpi:=partialInsertionSort_holds (lt:=(ltOf cf)) hS u2 a' b' (by omega) (by omega) hB2
   obtain ⟨⟨v,fl⟩,hv⟩:∃ v,partialInsertionSort (ltOf cf) u2 a' b' = v:=⟨_,rfl⟩
   rw [hv] at hs hpi
   dsimp only at hs hpi
   (repeat (first | (refine AOps.gN ?_;first | (refine AOps.g_callf ?_;first | refine AOps.o4 (h:=(hs ..)) (k:=?_))) | refine WK ?_ | refine All.i fun X=>?_ | refine AllY.i fun Y=>?_))
   refine AWP.cond rfl (fun he=>?_) (fun he=>?_)
   ·(refine AWP.ret ?_;(repeat (first | refine inB_r ?_ | refine andThen_r ?_));refine retQ_r ?_)
    exact Ends.void [(X,_)] ⟨v,hG v (permIn_trans _ _ _ _ _ hP2 hpi.1) (hpi.2 he),rfl,rfl⟩
   ·(repeat (first | refine WK ?_ | refine All.i fun X=>?_ | refine AllY.i fun Y=>?_))
    exact jnR v (permIn_trans _ _ _ _ _ hP2 hpi.1)
  ·(repeat (first | refine WK ?_ | refine All.i fun X=>?_ | refine AllY.i fun Y=>?_))
   exact jnR u2 hP2
 rintro u3 hP3
 have hu3:u3.size = d.size:=hP3.1.trans hu
 have hB3:=hB'.perm (by omega) hP3
 have hg3:∀ R,PermIn a' b' u3 R → SortedIn (ltOf cf) a' b' R → PermIn a b d R ∧ SortedIn (ltOf cf) a b R:=fun R h1 h2=>hG R (permIn_trans _ _ _ _ _ hP3 h1) h2
 clear hB2 hP2 hu2 u2 hP1 hu1 u1 hG hB' hn2
 refine AWP.seq ?_
 refine AWP.joinR (fun _:Unit=>True) (fun _=>⟨[(0,.sl X 0 n),(1,iA a'),(2,iA b'),(3,iA lim1),(4,.fn f cap),(10,bA wb),(11,bA wp),(12,iA l),(13,iA pv)],(X,.row 55 3 (u3.toList.map (itemA false))) :: Sf⟩) ?_ ?_
 ·rcases Bool.eq_false_or_eq_true (decide ((0:Int) < (a':Int))) with g | g
  ·have hg:0 < a':=by have:=of_decide_eq_true g;omega
   have h1:=arr_at (itemA false) (d:=u3) (i:=a' - 1) (by omega)
   have h2:=arr_at (itemA false) (d:=u3) (i:=pv) (by omega)
   have hl2:=hcf (u3[a' - 1]!) (u3[pv]!)
   (repeat refine WF ?_)
   (repeat refine WF ?_);refine AWP.region_run (by kernel_rfl) (by kernel_rfl) ?_;(repeat (first | (refine RGo.gN ?_;first | (refine RGo.g_callv ?_;first | refine RGo.k2 (h:=(hl2 ..)) (k:=?_)) | refine RGo.go (h:=W.subE (((a' - 1:Nat):Int)) (by omega) (by omega) rfl rfl) (k:=?_)) | (refine RGo.gQ ?_;first | (refine RGo.g_callv ?_;first | refine RGo.k2 (h:=(hl2 ..)) (k:=?_)) | refine RGo.go (h:=W.subE (((a' - 1:Nat):Int)) (by omega) (by omega) rfl rfl) (k:=?_)) | refine RK ?_ | refine RGo.nil (by kernel_rfl) ?_))
   (repeat refine WF ?_)
   refine AWP.cond rfl (fun hd=>?_) (fun hd=>?_)
   ·have hd:(!(ltOf cf) u3[a' - 1]! u3[pv]!) = true:=by simpa [g,ltOf] using hd
    have hd:(ltOf cf) u3[a' - 1]! u3[pv]! = false:=by simpa [ltOf] using hd
    have hs:=peqT_po f cap cf hst hcf X n u3 a' b' pv (by omega) c3 c4 (by omega) (by omega)
    obtain ⟨⟨mid,d4⟩,hx⟩:∃ x,partitionEqual (ltOf cf) u3 a' b' pv = x:=⟨_,rfl⟩
    rw [hx] at hs
    dsimp only at hs
    obtain ⟨q1,q2,q3,q4,q5⟩:=round_eq (lt:=(ltOf cf)) hS (partitionEqual_holds (ltOf cf)) hg c3 c4 (by omega) hB3 hd hx
    (repeat (first | (refine AOps.gN ?_;first | (refine AOps.g_callf ?_;first | refine AOps.o5 (h:=(hs ..)) (k:=?_))) | refine WK ?_ | refine All.i fun X=>?_ | refine AllY.i fun Y=>?_))
    refine lp_next6 mid b' lim1 wb wp d4 ⟨q2,hb',by omega,hlim1,q3.trans hu3,q4,fun R k1 k2=>?_⟩
    obtain ⟨k3,k4⟩:=q5 R k1 k2
    exact hg3 R k3 k4
   ·(repeat (first | refine WK ?_ | refine All.i fun X=>?_ | refine AllY.i fun Y=>?_))
    exact jnR () trivial
  ·(repeat refine WF ?_)
   (repeat refine WF ?_);refine AWP.region_run (by kernel_rfl) (by kernel_rfl) ?_;(repeat (first | refine RK ?_ | refine RGo.nil (by kernel_rfl) ?_))
   (repeat refine WF ?_)
   refine AWP.cond_f rfl (by simp [g]) ?_
   (repeat (first | refine WK ?_ | refine All.i fun X=>?_ | refine AllY.i fun Y=>?_))
   exact jnR () trivial
 rintro _ _
 have hs:=partT_po f cap cf hst hcf X n u3 a' b' pv (by omega) c3 c4 (by omega) (by omega)
 obtain ⟨⟨mid,ap,d4⟩,hx⟩:∃ x,partition (ltOf cf) u3 a' b' pv = x:=⟨_,rfl⟩
 rw [hx] at hs
 dsimp only at hs
 obtain ⟨r1,r2,r3,r4,r5,r6,r7⟩:=round_part (lt:=(ltOf cf)) hS (partition_holds (ltOf cf)) c3 c4 (by omega) hB3 hx
 (repeat (first | (refine AOps.gN ?_;first | (refine AOps.g_callf ?_;first | refine AOps.o5 (h:=(hs ..)) (k:=?_)) | refine AOps.p (W.subE (((mid - a':Nat):Int)) (by omega) (by omega) rfl rfl) rfl ?_ | refine AOps.p (W.subE (((b' - mid:Nat):Int)) (by omega) (by omega) rfl rfl) rfl ?_ | refine AOps.p (W.quoN l 8 (l / 8) rfl rfl (by omega) rfl (by omega) rfl rfl) rfl ?_) | refine WK ?_ | refine All.i fun X=>?_ | refine AllY.i fun Y=>?_))
 refine AWP.cond rfl (fun hd=>?_) (fun hd=>?_)
 ·have hrec:=ih (mid - a') (by omega) X n d4 a' mid lim1 (Nat.le_refl _) (by omega) r1 (by omega) (by omega) hlim1 r4
  (repeat (first | (refine AOps.gN ?_;first | (refine AOps.g_callf ?_;first | refine AOps.eo5 (h:=hrec) (k:=fun v hv=>?_)) | refine AOps.p (W.addE (((mid + 1:Nat):Int)) (by omega) (by omega) rfl rfl) rfl ?_) | refine WK ?_ | refine All.i fun X=>?_ | refine AllY.i fun Y=>?_))
  obtain ⟨v1,v2⟩:=hv
  obtain ⟨s1,s2⟩:=r6 v v1 v2
  refine lp_next6 (mid + 1) b' lim1 _ ap v ⟨by omega,hb',by omega,hlim1,v1.1.trans (r3.trans hu3),s1,fun R k1 k2=>?_⟩
  obtain ⟨k3,k4⟩:=s2 R k1 k2
  exact hg3 R k3 k4
 ·have hrec:=ih (b' - (mid + 1)) (by omega) X n d4 (mid + 1) b' lim1 (Nat.le_refl _) (by omega) (by omega) (by omega) (by omega) hlim1 r5
  (repeat (first | (refine AOps.gN ?_;first | (refine AOps.g_callf ?_;first | refine AOps.eo5 (h:=hrec) (k:=fun v hv=>?_)) | refine AOps.p (W.addE (((mid + 1:Nat):Int)) (by omega) (by omega) rfl rfl) rfl ?_) | refine WK ?_ | refine All.i fun X=>?_ | refine AllY.i fun Y=>?_))
  obtain ⟨v1,v2⟩:=hv
  obtain ⟨s1,s2⟩:=r7 v v1 v2
  refine lp_next6 a' mid lim1 _ ap v ⟨by omega,by omega,by omega,hlim1,v1.1.trans (r3.trans hu3),s1,fun R k1 k2=>?_⟩
  obtain ⟨k3,k4⟩:=s2 R k1 k2
  exact hg3 R k3 k4
end
section
open Go.Sort
set_option maxRecDepth 8000 in
theorem sortFuncT_sp (f:FuncId) (cap:List AV) (cf:Item → Item → Int) (hst:st1s cap = true) (hS:SWO (ltOf cf)) (hf:∀ x y,PS Tryz.prog f (itemA false x :: itemA false y :: cap) (iA (cf x y))) (X n:Nat) (l:List Item) (hn:n = l.length) (hlt:l.length < 65536) :
  Spec Tryz.prog 55 [.sl X 0 n,.fn f cap] [(X,.row 55 3 (l.map (itemA false)))] fun r S'=>∃ u:List Item,(u.Perm l ∧ u.Pairwise fun a b=>ltOf cf b a = false) ∧ r = .tup [] ∧ S' = [(X,.row 55 3 (u.map (itemA false)))]:=by
 have e1:(UInt64.ofNat n).toNat = n:=by rw [UInt64.toNat_ofNat'];omega
 have hlen:=len_ps (UInt64.ofNat n) (by rw [e1];omega)
 rw [e1] at hlen
 have hsz:l.toArray.size = l.length:=by simp
 have hb:bitsLen n ≤ 1000:=Nat.le_trans ((bitsLen_le_iff n 16).2 (by show n < 65536;omega)) (by decide)
 have hs:=pdqT_sp f cap cf hst hf hS n X n l.toArray 0 n (bitsLen n) (by omega) (by omega) (Nat.zero_le _) (by omega) (by omega) hb (.inl rfl)
 simp only [List.toList_toArray] at hs
 refine Spec.of (nt:=14) (res:=[]) Tryz.func55 rfl (by kernel_rfl) rfl rfl rfl fun Sf=>?_
 (repeat (first | (refine AOps.gN ?_;first | (refine AOps.g_callf ?_;first | refine AOps.c1 (h:=(hlen ..)) (k:=?_)) | refine AOps.p5 [] (h:=hs) (fun u hu=>?_) | refine AOps.p (W.toUN .i64 n rfl (by omega) (by kernel_rfl) (by kernel_rfl) rfl) rfl ?_) | refine WK ?_ | refine All.i fun X=>?_ | refine AllY.i fun Y=>?_))
 refine retQ_n ?_
 obtain ⟨h1,h2⟩:=hu
 have h1':PermIn 0 l.toArray.size l.toArray u:=by rw [hsz,← hn];exact h1
 have hus:n = u.size:=by rw [h1'.1,hsz];exact hn
 exact Ends.void [(X,_)] ⟨u.toList,⟨by simpa using permIn_list h1',sortedIn_list hus h2⟩,rfl,rfl⟩
end
theorem world1_ps (x y:Item):PS Tryz.prog 56 [itemA false x,itemA false y] (iA (cmpI x.ent.n y.ent.n)):=by
 have h:=compare_ps x.ent.n y.ent.n
 obtain ⟨⟨xn,xg⟩,xc⟩:=x
 obtain ⟨⟨yn,yg⟩,yc⟩:=y
 refine Spec.of (nt:=12) (res:=[.tmp 4]) Tryz.func56 rfl (by kernel_rfl) rfl rfl rfl fun Sf=>?_
 (repeat refine WF ?_);refine AWP.region ?_;(repeat (first | (refine AOps.gN ?_;first | (refine AOps.g_box ?_;refine AOps.goB ?_)) | refine WO ?_ | refine All.i fun X=>?_ | refine AllY.i fun Y=>?_));refine AOps.nil ?_;(repeat refine WN ?_)
 (repeat first | refine AOps.nil ?_ | refine WF ?_)
 (repeat refine WF ?_);refine AWP.region ?_;(repeat (first | (refine AOps.gN ?_;first | (refine AOps.g_callf ?_;first | refine AOps.c2 (h:=(h ..)) (k:=?_))) | refine WO ?_ | refine All.i fun X=>?_ | refine AllY.i fun Y=>?_));refine AOps.nil ?_;(repeat refine WN ?_)
 (refine AWP.ret ?_;(repeat (first | refine inB_r ?_ | refine andThen_r ?_));refine retQ_r ?_);refine Ends.ps ?_
 rfl
theorem W.call1F {P:Program} {ty:TypeId} {pos:String} {after:Array Edge} {dst:Option Tmp} {c:Option (List Bool)} {g:Option (Nat × Bool)} {T:List (Nat × AV)} {S:List Slot} {x0:Operand} {v0:AV} {f:FuncId} {ats:Array TypeId} {r v:AV} [hf:Frz r v] (h0:Rd c T x0 v0) (h:PS P f [v0] r) (ht:noTup [(x0,v0)] = true):Stp c P ⟨dst,.call ⟨.value (.func f),#[x0],ats⟩,ty,pos,after,g⟩ T S [(x0,v0)] [] v []:=hf.h ▸ W.call1 h0 h ht
theorem tItems_len (t:Tab):(tItems t).length = t.es.length:=List.length_map _
theorem tItems_at {t:Tab} {i:Nat} (h:i < t.es.length):(tItems t)[i]? = some ⟨t.es[i].2,tComps t t.es[i].1⟩:=by
 rw [tItems,List.getElem?_map,List.getElem?_eq_getElem h];rfl
set_option maxRecDepth 8000 in
set_option maxHeartbeats 4000000 in
theorem arWorld_sp (a:Ar) (ha:ArOK a) (hne:ArNE a.ts) (hk16:a.kinds.length ≤ 16) (hkf:∀ k ∈ a.kinds,k.fields.length ≤ 8) (hgl:a.gens.length ≤ 256) (hcv:∀ it ∈ arItems a.ts,CsL it.comps) :
  Spec Tryz.prog 18 [.ptr a.A 0 0] (arS a) fun r S'=>∃ L:List Item,(L.Perm (arItems a.ts) ∧ L.Pairwise fun x y=>x.ent.n ≤ y.ent.n) ∧ r = wdA false ⟨a.kinds,a.gens,L⟩ ∧ S' = arS a:=by
 have hkp:=kindCopy_ps a.kinds (by omega) (fun k hk=>by have:=hkf k hk;omega)
 have hcl:=cloneIs_sp a.G a.gens a.gens.length rfl (by omega)
 have htl:=ha.ts_le hne
 have hpt:(ptrs Tab.X a.ts).length = a.ts.length:=List.length_map _
 refine Spec.of (nt:=51) (res:=[.cell 2 26]) Tryz.func18 rfl (by kernel_rfl) rfl rfl rfl fun Sf=>?_
 (repeat refine WF ?_);refine AWP.region ?_;(repeat (first | refine WO ?_ | refine All.i fun Z=>?_ | refine AllY.i fun Y=>?_));refine AOps.nil ?_;(repeat refine WN ?_)
 (repeat first | refine AOps.nil ?_ | refine WF ?_)
 refine AWP.rs fun V=>?_
 (repeat refine WF ?_);refine AWP.region_run (by kernel_rfl) (by kernel_rfl) ?_;(repeat (first | (refine RGo.gN ?_;first | (refine RGo.g_callf ?_;first | refine RGo.c1 (h:=(hkp ..)) (k:=?_) | refine RGo.z1 (h:=hcl) (hT:=.fz) (k:=?_))) | (refine RGo.gQ ?_;first | (refine RGo.g_callf ?_;first | refine RGo.c1 (h:=(hkp ..)) (k:=?_) | refine RGo.z1 (h:=hcl) (hT:=.fz) (k:=?_))) | refine RK ?_ | refine RGo.nil (by kernel_rfl) ?_))
 (repeat first | refine AOps.nil ?_ | refine WF ?_)
 refine AWP.adoptIn (Y:=V) 55 3 (by exact At.f) (fun I=>.cons (.agg (.cons .same (.cons .same (.cons (.base .nil) .nil)))) .nil) fun I=>?_
 (repeat refine WF ?_);refine AWP.region ?_;(repeat (first | refine WO ?_ | refine All.i fun X=>?_ | refine AllY.i fun Y=>?_));refine AOps.nil ?_;(repeat refine WN ?_)
 (repeat first | refine AOps.nil ?_ | refine WF ?_)
 refine AWP.lp3 (fun (j I:Nat) (its:List Item)=>⟨[(2,.ptr Z 0 0),(3,.ptr V 0 0),(22,.sl a.Tb 0 a.ts.length),(23,iA (a.ts.length:Nat)),(24,iA j)],(I,.row 55 3 (its.map (itemA false))) :: (V,.row 26 3 [.agg [kindsA false false a.kinds,intsA false a.gens,.sl I 0 its.length]]) :: (Z,.row 26 3 [.agg [.prim (.slice none 0 0),.prim (.slice none 0 0),.prim (.slice none 0 0)]]) :: (arS a ++ Sf)⟩) (fun j _ its=>j ≤ a.ts.length ∧ its = arItems (a.ts.take j)) (fun j _ _=>a.ts.length - j) 0 I [] ⟨by omega,rfl⟩ ?_
 rintro j I its ⟨hj,hits⟩
 (repeat refine WF ?_);refine AWP.region ?_;(repeat (first | refine WO ?_ | refine All.i fun X=>?_ | refine AllY.i fun Y=>?_));refine AOps.nil ?_;(repeat refine WN ?_)
 (repeat first | refine AOps.nil ?_ | refine WF ?_)
 refine AWP.cond rfl (fun h=>?_) (fun h=>?_)
 ·have h:j < a.ts.length:=by rw [decide_eq_true_eq] at h;omega
  obtain ⟨l1,l2,hsp,hl1⟩:=splitL_at h
  have htm:=List.getElem_mem h
  have hto:=ha.tab _ htm
  have hten:=ha.ent _ htm
  have hat:(ptrs Tab.X a.ts)[j]? = some (.ptr a.ts[j].X 0 0):=map_at _ h
  have hnext:arItems (a.ts.take (j + 1)) = its ++ tItems a.ts[j]:=by
   rw [List.take_succ_eq_append_getElem h,arItems_app,← hits,arItems_cons]
   simp [arItems]
  have hcvt:∀ it ∈ tItems a.ts[j],CsL it.comps:=fun it hi=>hcv it (List.mem_flatMap.2 ⟨_,htm,hi⟩)
  have hbnd:its.length + (tItems a.ts[j]).length ≤ 256:=by
   have h1:=ha.c_le
   rw [ha.cnt,ha.keys_items,List.length_map] at h1
   have h2:arItems a.ts = its ++ tItems a.ts[j] ++ arItems l2:=by
    conv=>lhs;rw [hsp]
    rw [arItems_app,arItems_cons,hits,← List.append_assoc]
    have:l1 = a.ts.take j:=by
     have:=congrArg (List.take j) hsp
     rw [List.take_left' hl1] at this
     exact this.symm
    rw [this]
   rw [h2,List.length_append,List.length_append] at h1
   omega
  obtain ⟨t,ht⟩:∃ t,a.ts[j] = t:=⟨_,rfl⟩
  rw [ht] at hsp hto hten hat hnext hcvt hbnd
  obtain ⟨Z2,hZ2⟩:∃ Z2,tabsS l1 ++ (tabsS l2 ++ Sf) = Z2:=⟨_,rfl⟩
  have hop:=tabs_open (l1:=l1) (l2:=l2) (t:=t) Sf
  rw [← hsp,hZ2] at hop
  (repeat first | refine AOps.nil ?_ | refine WF ?_)
  (repeat refine WF ?_);refine AWP.region ?_;(repeat (first | (refine AOps.gN ?_;first | refine AOps.go (h:=W.idx rfl rfl (by exact At.f) rfl (by omega) (Nat.zero_add _)) (k:=?_)) | refine WO ?_ | refine All.i fun P5=>?_ | refine AllY.i fun Y=>?_));refine AOps.nil ?_;(repeat refine WN ?_)
  (repeat first | refine AOps.nil ?_ | refine WF ?_)
  refine AWP.perm (S':=(I,.row 55 3 (its.map (itemA false))) :: (P5,.row 109 1 [.ptr t.X 0 0]) :: (V,.row 26 3 [.agg [kindsA false false a.kinds,intsA false a.gens,.sl I 0 its.length]]) :: (tabS t ++ ((Z,.row 26 3 [.agg [.prim (.slice none 0 0),.prim (.slice none 0 0),.prim (.slice none 0 0)]]) :: (arH a ++ Z2)))) ?_ ?_
  ·refine (List.Perm.swap _ _ _).trans (List.Perm.cons _ (List.Perm.cons _ (List.Perm.cons _ ?_)))
   have h1:=hop.append_left ((Z,AO.row 26 3 [.agg [.prim (.slice none 0 0),.prim (.slice none 0 0),.prim (.slice none 0 0)]]) :: arH a)
   refine (List.Perm.of_eq ?_).trans (h1.trans (perm_mid ((Z,AO.row 26 3 [.agg [.prim (.slice none 0 0),.prim (.slice none 0 0),.prim (.slice none 0 0)]]) :: arH a) (tabS t) Z2))
   rw [arS];simp only [List.cons_append,List.nil_append]
  have hal:=allE_sp t.ek t.es hto.es
  have hI:=allE_itr (keysC t.es) (t.es.map (·.2)) (by simp) (by have:=hto.es.len;rw [List.length_map];omega)
  (repeat refine WF ?_);refine AWP.region ?_;(repeat (first | (refine AOps.gN ?_;first | refine AOps.u1 [_,_,_,_] (h:=hal) (k:=?_)) | refine WO ?_ | refine All.i fun X=>?_ | refine AllY.i fun Y=>?_));refine AOps.nil ?_;(repeat refine WN ?_)
  (repeat first | refine AOps.nil ?_ | refine WF ?_)
  refine AWP.rangeF (Sf:=(Z,.row 26 3 [.agg [.prim (.slice none 0 0),.prim (.slice none 0 0),.prim (.slice none 0 0)]]) :: (arH a ++ Z2)) hI (fun b:Nat × List Item=>(b.1,AO.row 55 3 (b.2.map (itemA false))) :: (P5,.row 109 1 [.ptr t.X 0 0]) :: (V,.row 26 3 [.agg [kindsA false false a.kinds,intsA false a.gens,.sl b.1 0 b.2.length]]) :: tabS t) (fun i b=>b.2 = its ++ (tItems t).take i) (I,its) (by simp) ?_ ?_ rfl rfl rfl ?_ ?_
  ·rintro i vs ⟨I,is⟩ l F1 F2 hi hb
   dsimp only at hb
   have hn:i < t.es.length:=by
    have:=(List.getElem?_eq_some_iff.1 hi).1
    simpa using this
   have hiv:[iA t.es[i].1,entA t.es[i].2] = vs:=by
    rw [List.getElem?_map,List.getElem?_eq_getElem (by simpa using hn),List.getElem_zip] at hi
    simpa using hi
   subst hiv
   have hem:=List.getElem_mem hn
   have hnk:t.es[i].1 ∈ keysC t.es:=List.mem_map.2 ⟨_,hem,rfl⟩
   have hnl:=hto.es.lt _ hnk
   have hcs:=comps_sp t t.es[i].1 hto (by constructor <;> omega) hnk
   have hti:=tItems_at hn
   have hci:=hcvt _ (List.mem_of_getElem? hti)
   have hcc:=copyComps_ps (tComps t t.es[i].1) hci.1 hci.2
   have hil:i < (tItems t).length:=by rw [tItems_len];exact hn
   have hnx:is ++ [⟨t.es[i].2,tComps t t.es[i].1⟩] = its ++ (tItems t).take (i + 1):=by
    rw [hb,List.take_add_one,hti,List.append_assoc];rfl
   have hisl:is.length ≤ 256:=by rw [hb,List.length_append,List.length_take];omega
   obtain ⟨⟨en,ee⟩,hee⟩:∃ e,t.es[i] = e:=⟨_,rfl⟩
   rw [hee] at hcs hcc hnx
   rw [hee]
   dsimp only at hcs hcc hnx ⊢
   obtain ⟨lc,hlc⟩:∃ lc,tComps t en = lc:=⟨_,rfl⟩
   rw [hlc] at hcs hcc hnx
   have hma:is.map (itemA false) ++ [itemA false ⟨ee,lc⟩] = (is ++ [(⟨ee,lc⟩:Item)]).map (itemA false):=by rw [List.map_append];rfl
   have hml:is.length + [itemA false ⟨ee,lc⟩].length = (is ++ [(⟨ee,lc⟩:Item)]).length:=by rw [List.length_append];rfl
   (repeat first | refine AOps.nil ?_ | refine WF ?_)
   (repeat refine WF ?_);refine AWP.region ?_;(repeat (first | refine WO ?_ | refine All.i fun X=>?_ | refine AllY.i fun Y=>?_));refine AOps.nil ?_;(repeat refine WN ?_)
   (repeat first | refine AOps.nil ?_ | refine WF ?_)
   (repeat refine WF ?_);refine AWP.region ?_;(repeat (first | refine WO ?_ | refine All.i fun E7=>?_ | refine AllY.i fun Y=>?_));refine AOps.nil ?_;(repeat refine WN ?_)
   refine ⟨(E7,.row 32 2 [entA ee]) :: (I,.row 55 3 (is.map (itemA false))) :: (P5,AO.row 109 1 [.ptr t.X 0 0]) :: (V,.row 26 3 [.agg [kindsA false false a.kinds,intsA false a.gens,.sl I 0 is.length]]) :: tabS t,.refl _,?_⟩
   (repeat first | refine AOps.nil ?_ | refine WF ?_)
   refine AWP.rs fun Y=>?_
   (repeat refine WF ?_)
   refine AWP.region_runT 5 (by kernel_rfl) (by kernel_rfl) ?_
   refine RGoT.go ?_
   refine RGoT.go ?_
   refine RGoT.go ?_
   refine RGoT.go ?_
   refine RGoT.go ?_
   refine RGoT.callK (xs:=[(.tmp 38,.ptr t.X 0 0),(.tmp 39,iA en)]) (L:=[_,_,_,_,_]) (R:=F2) hcs (.fz (v:=compsA false false lc)) rfl (Nat.le_refl 5) (.cons rfl (.cons rfl .nil)) rfl rfl ?_
   refine RGoT.go (h:=W.call1F (v:=compsA false false lc) rfl hcc rfl) ?_
   refine RGoT.go ?_
   refine RGoT.go (v:=.lst false 55 3 [itemA false ⟨ee,lc⟩]) (h:=W.litF1 (v0:=itemA false ⟨ee,lc⟩) rfl rfl (.inl rfl) (by decide) (by decide) rfl) ?_
   refine RGoT.goS (h:=W.app (X:=I) (Y:=Y) rfl rfl (by exact At.f) (by exact At.f) (by rw [List.length_map]) (by rw [List.length_map];show (is.length + 1) * 40 ≤ _;omega) (by rw [List.length_map];unfold maxLen;show is.length + 1 ≤ _;omega) (by decide)) ?_
   refine RGoT.go ?_
   refine RGoT.goS ?_
   refine RGoT.nil (by kernel_rfl) ?_
   rw [hma,hml]
   refine ⟨(Y,.row 55 3 ((is ++ [(⟨ee,lc⟩:Item)]).map (itemA false))) :: (P5,AO.row 109 1 [.ptr t.X 0 0]) :: (V,.row 26 3 [.agg [kindsA false false a.kinds,intsA false a.gens,.sl Y 0 (is ++ [(⟨ee,lc⟩:Item)]).length]]) :: tabS t,?_,(Y,is ++ [(⟨ee,lc⟩:Item)]),hnx,rfl⟩
   exact .cons _ (.cons _ (.refl _))
  ·rintro ⟨I,is⟩ hb
   dsimp only at hb
   have hxl:((keysC t.es).zip (t.es.map (·.2))).length = t.es.length:=by simp
   rw [List.length_map,hxl,← tItems_len,List.take_length] at hb
   (repeat first | refine AOps.nil ?_ | refine WF ?_)
   refine AWP.perm (S':=(P5,.row 109 1 [.ptr t.X 0 0]) :: (I,.row 55 3 (is.map (itemA false))) :: (V,.row 26 3 [.agg [kindsA false false a.kinds,intsA false a.gens,.sl I 0 is.length]]) :: (Z,.row 26 3 [.agg [.prim (.slice none 0 0),.prim (.slice none 0 0),.prim (.slice none 0 0)]]) :: (arS a ++ Sf)) ?_ ?_
   ·refine (List.Perm.swap _ _ _).trans (List.Perm.cons _ (List.Perm.cons _ (List.Perm.cons _ ?_)))
    have h1:=hop.append_left ((Z,AO.row 26 3 [.agg [.prim (.slice none 0 0),.prim (.slice none 0 0),.prim (.slice none 0 0)]]) :: arH a)
    refine List.Perm.trans (perm_mid (tabS t) ((Z,AO.row 26 3 [.agg [.prim (.slice none 0 0),.prim (.slice none 0 0),.prim (.slice none 0 0)]]) :: arH a) Z2) (h1.symm.trans (List.Perm.of_eq ?_))
    rw [arS];simp only [List.cons_append,List.nil_append]
   ·(repeat refine WF ?_);refine AWP.region ?_;(repeat (first | refine WO ?_ | refine All.i fun X=>?_ | refine AllY.i fun Y=>?_));refine AOps.nil ?_;(repeat refine WN ?_)
    exact lp_next3 (j + 1) I is ⟨by omega,by rw [hb,hnext]⟩ (by omega)
  ·intro vs hvs
   obtain ⟨q,_,rfl⟩:=List.mem_map.1 hvs
   rfl
  ·exact .refl _
 ·have h:j = a.ts.length:=by rw [decide_eq_false_iff_not] at h;omega
  subst h
  rw [List.take_length] at hits
  have hilen:its.length ≤ 256:=by
   have h1:=ha.c_le
   rw [ha.cnt,ha.keys_items,List.length_map] at h1
   rw [hits];omega
  have hso:=sortFuncT_sp 56 [] (fun x y=>cmpI x.ent.n y.ent.n) rfl (swo_key fun x:Item=>x.ent.n) world1_ps I its.length its rfl (by omega)
  (repeat first | refine AOps.nil ?_ | refine WF ?_)
  (repeat refine WF ?_);refine AWP.region ?_;(repeat (first | (refine AOps.gN ?_;first | refine AOps.p2 [] (h:=hso) (fun u hu=>?_)) | refine WO ?_ | refine All.i fun X=>?_ | refine AllY.i fun Y=>?_));refine AOps.nil ?_;(repeat refine WN ?_)
  obtain ⟨hu1,hu2⟩:=hu
  have hul:=hu1.length_eq
  have hF:AV.frzs (((u.map (itemA false)).drop 0).take its.length) = u.map (itemA false):=by
   rw [List.drop_zero,List.take_of_length_le (by rw [List.length_map];omega)]
   exact Frzs.h
  (repeat first | refine AOps.nil ?_ | refine WF ?_)
  refine AWP.iceIn (X:=I) (Y:=V) .here (.next .here) rfl (.cons (.agg (.cons .same (.cons .same (.cons (.base (.sl (by rw [List.length_map];omega))) .nil)))) .nil) ?_
  rw [hF]
  (repeat refine WF ?_);refine AWP.region ?_;(repeat (first | refine WO ?_ | refine All.i fun X=>?_ | refine AllY.i fun Y=>?_));refine AOps.nil ?_;(repeat refine WN ?_)
  (refine AWP.ret ?_;(repeat (first | refine inB_r ?_ | refine andThen_r ?_));refine retQ_r ?_)
  exact Ends.sp [wdA false ⟨a.kinds,a.gens,u⟩] (arS a) ⟨u,⟨by rw [← hits];exact hu1,hu2.imp fun {x y} h=>by
   simp only [ltOf,decide_eq_false_iff_not,cmpI_neg] at h
   omega⟩,rfl,rfl⟩
abbrev boolsA (b:Bool) (l:List Bool):AV:=.lst b 4 1 (l.map bA)
theorem ArFor.sorted {a:Ar} {w:Wd} (h:ArFor a w) {L:List Item} (hp:L.Perm (arItems a.ts)) (hs:L.Pairwise fun x y=>x.ent.n ≤ y.ent.n):L = w.items:=by
 refine List.Perm.eq_of_pairwise (le:=fun x y=>x.ent.n ≤ y.ent.n) (fun x y hx hy h1 h2=>?_) hs (h.wok.so.imp fun h=>by omega) (hp.trans h.items)
 exact ks_uniq (key:=fun x:Item=>x.ent.n) h.wok.so ((hp.trans h.items).mem_iff.1 hx) hy (by omega)
theorem setB {d:List Bool} {i n:Nat} {b:Bool} (hd:d.length = i) (h:i < n):((d ++ List.replicate (n - i) false).map bA).set i (bA b) = ((d ++ [b]) ++ List.replicate (n - (i + 1)) false).map bA:=by
 rw [← List.map_set]
 congr 1
 rw [List.set_append_right _ _ (by omega),hd,Nat.sub_self,show n - i = (n - (i + 1)) + 1 by omega,List.replicate_succ,List.set_cons_zero,List.append_assoc]
 rfl
structure CmdsL (ks:List Kind) (l:List Cmd):Prop where
 ok:∀ c ∈ l,(cmdOne ks c).2 = 0
 n:∀ c ∈ l,I64 c.ent.n
 l:∀ c ∈ l,c.comps.length ≤ 1099511627776
theorem Cmds_next {w v:Wd} {l:List Cmd} {i:Nat} {c:Cmd} {es:List Ent} {ds:List Bool} (h:i < l.length) (hc:l[i] = c) (he:runW w l = ((runW v (l.drop i)).1,es ++ (runW v (l.drop i)).2.1,ds ++ (runW v (l.drop i)).2.2)) :
  runW w l = ((runW (actW v c).1 (l.drop (i + 1))).1,(if (actW v c).2.2 = true ∧ c.act = 3 then es ++ [(actW v c).2.1] else es) ++ (runW (actW v c).1 (l.drop (i + 1))).2.1,(ds ++ [(actW v c).2.2]) ++ (runW (actW v c).1 (l.drop (i + 1))).2.2):=by
 rw [he,List.drop_eq_getElem_cons h,hc,runW]
 dsimp only
 split
 ·simp
 ·simp
set_option maxRecDepth 8000 in
theorem run_ps (w:Wd) (l:List Cmd) (hw:WdOK w) (h12:w.kinds.length ≤ 12) (hl:l.length ≤ 131072) (hc:CmdsL w.kinds l):PS Tryz.prog 60 [wdA false w,cmdsA false l] (.tup [wdA false (runW w l).1,.lst true 32 2 ((runW w l).2.1.map entA),boolsA true (runW w l).2.2]):=by
 have hof:=of_sp w hw
 have hlm:(l.map cmdA).length = l.length:=List.length_map _
 refine Spec.of (nt:=58) (res:=[.cell 4 26,.tmp 5,.tmp 6]) Tryz.func60 rfl (by kernel_rfl) rfl rfl rfl fun Sf=>?_
 (repeat refine WF ?_);refine AWP.region ?_;(repeat (first | (refine AOps.gN ?_;first | (refine AOps.g_box ?_;refine AOps.goB ?_)) | refine WO ?_ | refine All.i fun P=>?_ | refine AllY.i fun Y=>?_));refine AOps.nil ?_;(repeat refine WN ?_)
 (repeat first | refine AOps.nil ?_ | refine WF ?_)
 (repeat refine WF ?_);refine AWP.region ?_;(repeat (first | (refine AOps.gN ?_;first | refine AOps.p1 [_] (h:=hof) (k:=fun a ha=>?_)) | refine WO ?_ | refine All.i fun X=>?_ | refine AllY.i fun Y=>?_));refine AOps.nil ?_;(repeat refine WN ?_)
 obtain ⟨a1,a2,a3,a4,a5⟩:=ha
 have hf:ArFor a w:=⟨a1,a2,a3,a4,a5,hw⟩
 (repeat first | refine AOps.nil ?_ | refine WF ?_)
 (repeat refine WF ?_);refine AWP.region ?_;(repeat (first | refine WO ?_ | refine All.i fun X=>?_ | refine AllY.i fun Y=>?_));refine AOps.nil ?_;(repeat refine WN ?_)
 refine AWP.cond_f rfl rfl ?_
 (repeat first | refine AOps.nil ?_ | refine WF ?_)
 (repeat refine WF ?_);refine AWP.region ?_;(repeat (first | refine WO ?_ | refine All.i fun X=>?_ | refine AllY.i fun Y=>?_));refine AOps.nil ?_;(repeat refine WN ?_)
 (repeat first | refine AOps.nil ?_ | refine WF ?_)
 (repeat refine WF ?_);refine AWP.region ?_;(repeat (first | (refine AOps.gN ?_;first | (refine AOps.g_make ?_;refine AOps.goM (bA false) fun K=>?_)) | refine WO ?_ | refine All.i fun D=>?_ | refine AllY.i fun Y=>?_));refine AOps.nil ?_;(repeat refine WN ?_)
 (repeat first | refine AOps.nil ?_ | refine WF ?_)
 (repeat refine WF ?_);refine AWP.region ?_;(repeat (first | refine WO ?_ | refine All.i fun X=>?_ | refine AllY.i fun Y=>?_));refine AOps.nil ?_;(repeat refine WN ?_)
 (repeat first | refine AOps.nil ?_ | refine WF ?_)
 refine AWP.adopt (d:=9) 32 2 rfl fun O=>?_
 refine AWP.lp3 (fun (i Y:Nat) (z:Ar × Wd × List Ent × List Bool)=>⟨[(2,.fp (wdA false w).cells),(4,.ptr P 0 0),(7,.ptr a.A 0 0),(9,.sl Y 0 z.2.2.1.length),(10,.sl K 0 (l.map cmdA).length),(26,cmdsA false l),(27,iA (l.map cmdA).length),(28,iA i)],(Y,.row 32 2 (z.2.2.1.map entA)) :: (K,.row 4 1 ((z.2.2.2 ++ List.replicate (l.length - i) false).map bA)) :: (P,.row 26 3 [.agg [.prim (.slice none 0 0),.prim (.slice none 0 0),.prim (.slice none 0 0)]]) :: (arS z.1 ++ Sf)⟩) (fun i Y z=>i ≤ l.length ∧ ArFor z.1 z.2.1 ∧ z.1.A = a.A ∧ z.2.1.kinds = w.kinds ∧ z.2.2.1.length ≤ i ∧ z.2.2.2.length = i ∧ runW w l = ((runW z.2.1 (l.drop i)).1,z.2.2.1 ++ (runW z.2.1 (l.drop i)).2.1,z.2.2.2 ++ (runW z.2.1 (l.drop i)).2.2)) (fun i _ _=>l.length - i) 0 O (a,w,[],[]) ⟨Nat.zero_le _,hf,rfl,rfl,Nat.le_refl _,rfl,rfl⟩ ?_ (h0:=⟨by exact Lk.f,by rw [hlm,Nat.sub_zero,List.nil_append,List.map_replicate];exact Sub.f⟩)
 rintro i Y ⟨z,v,es,ds⟩ ⟨hi,hz,hzA,hvk,hes,hds,hrun⟩
 dsimp only at hz hzA hvk hes hds hrun ⊢
 (repeat refine WF ?_);refine AWP.region ?_;(repeat (first | refine WO ?_ | refine All.i fun X=>?_ | refine AllY.i fun Y=>?_));refine AOps.nil ?_;(repeat refine WN ?_)
 (repeat first | refine AOps.nil ?_ | refine WF ?_)
 refine AWP.cond rfl (fun hb=>?_) (fun hb=>?_)
 ·have h:i < l.length:=by rw [decide_eq_true_eq,hlm] at hb;omega
  obtain ⟨c,hcc⟩:∃ c,l[i] = c:=⟨_,rfl⟩
  have hcm:c ∈ l:=by rw [← hcc];exact List.getElem_mem h
  have hat:(l.map cmdA)[i]? = some (cmdA c):=by rw [List.getElem?_map,List.getElem?_eq_getElem h,hcc];rfl
  have hact:=act_sp hz (by rw [hvk];exact h12) c (by rw [hvk];exact hc.ok c hcm) (hc.n c hcm) (hc.l c hcm)
  have hnx:=Cmds_next h hcc hrun
  obtain ⟨⟨v2,x,ok⟩,hv2⟩:∃ q,actW v c = q:=⟨_,rfl⟩
  rw [hv2] at hact hnx
  dsimp only at hact hnx
  have hnl:i < ((ds ++ List.replicate (l.length - i) false).map bA).length:=by rw [List.length_map,List.length_append,List.length_replicate];omega
  have hset:=setB (b:=ok) hds h
  have hvk2:v2.kinds = w.kinds:=by
   have:=(actW_ok hz.wok (c:=c) (by rw [hvk];exact hc.ok c hcm)).2
   rw [hv2] at this
   exact this.trans hvk
  rw [← hzA]
  (repeat first | refine AOps.nil ?_ | refine WF ?_)
  (repeat refine WF ?_);refine AWP.region ?_;(repeat (first | refine WO ?_ | refine All.i fun C=>?_ | refine AllY.i fun Y=>?_));refine AOps.nil ?_;(repeat refine WN ?_)
  (repeat first | refine AOps.nil ?_ | refine WF ?_)
  (repeat refine WF ?_);refine AWP.region ?_;(repeat (first | (refine AOps.gN ?_;first | refine AOps.p2 [_,_,_,_] (h:=hact) (k:=fun b hb2=>?_)) | refine WO ?_ | refine All.i fun V=>?_ | refine AllY.i fun Y=>?_));refine AOps.nil ?_;(repeat refine WN ?_)
  obtain ⟨hb1,hb2⟩:=hb2
  (repeat first | refine AOps.nil ?_ | refine WF ?_)
  (repeat refine WF ?_);refine AWP.region ?_;(repeat (first | refine WO ?_ | refine All.i fun X=>?_ | refine AllY.i fun Y=>?_));refine AOps.nil ?_;(repeat refine WN ?_)
  dsimp only [setAll,List.set_cons_zero,List.set_cons_succ,List.cons_append,List.nil_append]
  rw [hset]
  (repeat first | refine AOps.nil ?_ | refine WF ?_)
  have hEl:(es.map entA).length = es.length:=List.length_map _
  cases ok with
  | false =>
   rw [if_neg (by simp)] at hnx
   (repeat refine WF ?_);refine AWP.region ?_;(repeat (first | refine WO ?_ | refine All.i fun X=>?_ | refine AllY.i fun Y=>?_));refine AOps.nil ?_;(repeat refine WN ?_)
   refine AWP.cond_f rfl rfl ?_
   (repeat first | refine AOps.nil ?_ | refine WF ?_)
   (repeat refine WF ?_);refine AWP.region ?_;(repeat (first | refine WO ?_ | refine All.i fun X=>?_ | refine AllY.i fun Y=>?_));refine AOps.nil ?_;(repeat refine WN ?_)
   exact lp_next3 (i + 1) Y (b,v2,es,ds ++ [false]) ⟨h,hb1,hb2,hvk2,by dsimp only;omega,by rw [List.length_append,hds];rfl,hnx⟩ (by omega)
  | true =>
   (repeat refine WF ?_);refine AWP.region ?_;(repeat (first | refine WO ?_ | refine All.i fun X=>?_ | refine AllY.i fun Y=>?_));refine AOps.nil ?_;(repeat refine WN ?_)
   refine AWP.cond rfl (fun h3=>?_) (fun h3=>?_)
   ·have h3:c.act = 3:=of_decide_eq_true h3
    rw [if_pos ⟨rfl,h3⟩] at hnx
    (repeat first | refine AOps.nil ?_ | refine WF ?_)
    have hb1':(es.map entA).length + 1 ≤ 1099511627776:=by omega
    (repeat refine WF ?_);refine AWP.region ?_;(repeat (first | (refine AOps.gN ?_;first | (refine AOps.g_lit ?_;refine AOps.goL (entA x) ?_)) | refine WO ?_ | refine All.i fun X=>?_ | refine AllY.i fun Y=>?_));refine AOps.nil ?_;(repeat refine WN ?_)
    (repeat first | refine AOps.nil ?_ | refine WF ?_)
    dsimp only [setAll,List.set_cons_zero,List.set_cons_succ,List.cons_append,List.nil_append]
    have hm1:es.map entA ++ [entA x] = (es ++ [x]).map entA:=by rw [List.map_append];rfl
    have hm2:es.length + [entA x].length = (es ++ [x]).length:=by rw [List.length_append];rfl
    rw [hm1,hm2]
    (repeat refine WF ?_);refine AWP.region ?_;(repeat (first | refine WO ?_ | refine All.i fun X=>?_ | refine AllY.i fun Y=>?_));refine AOps.nil ?_;(repeat refine WN ?_)
    exact lp_next3 (i + 1) Y (b,v2,es ++ [x],ds ++ [true]) ⟨h,hb1,hb2,hvk2,by rw [List.length_append];show es.length + 1 ≤ i + 1;omega,by rw [List.length_append,hds];rfl,hnx⟩ (by omega)
   ·have h3:¬ c.act = 3:=of_decide_eq_false h3
    rw [if_neg (fun e=>h3 e.2)] at hnx
    (repeat first | refine AOps.nil ?_ | refine WF ?_)
    (repeat refine WF ?_);refine AWP.region ?_;(repeat (first | refine WO ?_ | refine All.i fun X=>?_ | refine AllY.i fun Y=>?_));refine AOps.nil ?_;(repeat refine WN ?_)
    exact lp_next3 (i + 1) Y (b,v2,es,ds ++ [true]) ⟨h,hb1,hb2,hvk2,by dsimp only;omega,by rw [List.length_append,hds];rfl,hnx⟩ (by omega)
 ·have h:i = l.length:=by rw [decide_eq_false_iff_not,hlm] at hb;omega
  subst h
  rw [List.drop_length] at hrun
  simp only [runW,List.append_nil] at hrun
  have hkk:=checkErr_one hz.wok.ks
  have har:=arWorld_sp z hz.ok hz.ne (by rw [hz.kinds];exact hkk.1) (fun k hk=>(oneErr_zero (hkk.2 k (by rw [← hz.kinds];exact hk))).2.1) (by rw [hz.gens];exact hz.wok.gl) (fun it hit=>(hz.wok.wl.items.2 it (hz.items.mem_iff.1 hit)))
  rw [← hzA]
  (repeat first | refine AOps.nil ?_ | refine WF ?_)
  (repeat refine WF ?_);refine AWP.region ?_;(repeat (first | (refine AOps.gN ?_;first | refine AOps.p1 [_,_,_] (h:=har) (k:=fun L hL=>?_)) | refine WO ?_ | refine All.i fun X=>?_ | refine AllY.i fun Y=>?_));refine AOps.nil ?_;(repeat refine WN ?_)
  have hLe:=hz.sorted hL.1 hL.2
  (refine AWP.ret ?_;(repeat (first | refine inB_r ?_ | refine andThen_r ?_));refine retQ_r ?_)
  rw [hrun]
  have hv:(⟨z.kinds,z.gens,L⟩:Wd) = v:=by rw [hz.kinds,hz.gens,hLe]
  rw [hv,Nat.sub_self,List.replicate_zero,List.append_nil]
  dsimp only [setAll,List.set_cons_zero,List.set_cons_succ,List.cons_append,List.nil_append]
  exact Ends.cv [wdA false v,.sl Y 0 es.length,.sl K 0 (l.map cmdA).length] [wdA false v,.lst true 32 2 (es.map entA),boolsA true ds] (.cons (.cell .same) (.cons (.cell (.sl (p:=0) .here (by rw [List.length_map]))) (.cons (.cell (.sl (p:=0) .here (by rw [hlm,List.length_map,hds]))) .nil))) (hS:=by repeat (first | exact List.sublist_append_right _ _ | apply List.Sublist.cons))
theorem apply_ps (w:Wd) (l:List Cmd) (hw:WdOK w) (h12:w.kinds.length ≤ 12) (hl:l.length ≤ 131072) (hc:CmdsL w.kinds l):PS Tryz.prog 22 [wdA false w,cmdsA false l] (.tup [wdA false (runW w l).1,entsA (runW w l).2.1,iA 0]):=by
 have hck:=cmdCheck_ps w l hw.wl h12 (by omega) hc.l
 rw [cmdErr_iff.2 ⟨hw,hl,hc.ok⟩] at hck
 have hrn:=run_ps w l hw h12 hl hc
 refine Spec.of (nt:=27) (res:=[.cell 4 26,.tmp 5,.tmp 6]) Tryz.func22 rfl (by kernel_rfl) rfl rfl rfl fun Sf=>?_
 (repeat refine WF ?_);refine AWP.region ?_;(repeat (first | (refine AOps.gN ?_;first | (refine AOps.g_box ?_;refine AOps.goB ?_)) | refine WO ?_ | refine All.i fun P=>?_ | refine AllY.i fun Y=>?_));refine AOps.nil ?_;(repeat refine WN ?_)
 (repeat first | refine AOps.nil ?_ | refine WF ?_)
 (repeat refine WF ?_);refine AWP.region ?_;(repeat (first | (refine AOps.gN ?_;first | (refine AOps.g_callf ?_;first | refine AOps.c2 (h:=(hck ..)) (k:=?_))) | refine WO ?_ | refine All.i fun X=>?_ | refine AllY.i fun Y=>?_));refine AOps.nil ?_;(repeat refine WN ?_)
 (repeat first | refine AOps.nil ?_ | refine WF ?_)
 (repeat refine WF ?_);refine AWP.region ?_;(repeat (first | refine WO ?_ | refine All.i fun X=>?_ | refine AllY.i fun Y=>?_));refine AOps.nil ?_;(repeat refine WN ?_)
 refine AWP.cond_f rfl rfl ?_
 (repeat first | refine AOps.nil ?_ | refine WF ?_)
 (repeat refine WF ?_);refine AWP.region ?_;(repeat (first | (refine AOps.gN ?_;first | (refine AOps.g_callf ?_;first | refine AOps.c2 (h:=(hrn ..)) (k:=?_))) | refine WO ?_ | refine All.i fun V=>?_ | refine AllY.i fun Y=>?_));refine AOps.nil ?_;(repeat refine WN ?_)
 (repeat first | refine AOps.nil ?_ | refine WF ?_)
 (repeat refine WF ?_);refine AWP.region ?_;(repeat (first | refine WO ?_ | refine All.i fun X=>?_ | refine AllY.i fun Y=>?_));refine AOps.nil ?_;(repeat refine WN ?_)
 (refine AWP.ret ?_;(repeat (first | refine inB_r ?_ | refine andThen_r ?_));refine retQ_r ?_)
 exact Ends.id (rs:=[wdA false (runW w l).1,entsA (runW w l).2.1,iA 0]) rfl
theorem entNeq (a b c d:Int) (w:World):(binOp .neq 32 (.agg [Value.int .i64 a,Value.int .i64 b].toArray) (.agg [Value.int .i64 c,Value.int .i64 d].toArray)).run Tryz.prog w = .ok (.bool (!(decide (a = c) && decide (b = d)))) w:=by
 have h:=eq_twoF (P:=Tryz.prog) (t:=32) 9998 (by kernel_rfl) (by kernel_rfl) (by kernel_rfl) a b c d w
 rw [run_neq_struct]
 have e:(Op.equalIn 10000 32 (.agg [Value.int .i64 a,Value.int .i64 b].toArray) (.agg [Value.int .i64 c,Value.int .i64 d].toArray)).run Tryz.prog w = _:=h
 rw [e,Result.andThen_ok]
theorem ent_ne (a b:Ent):(!(decide (a.n = b.n) && decide (a.gen = b.gen))) = decide (a ≠ b):=by
 cases a;cases b
 simp only [ne_eq,Ent.mk.injEq]
 rw [decide_not,Bool.decide_and]
theorem equalE_ps (a b:List Ent) (hl:a.length ≤ 1099511627776):PS Tryz.prog 26 [entsA a,entsA b] (bA (decide (a = b))):=by
 refine Spec.of (nt:=26) (res:=[.tmp 4]) Tryz.func26 rfl (by kernel_rfl) rfl rfl rfl fun Sf=>?_
 (repeat (first | refine WK ?_ | refine All.i fun X=>?_ | refine AllY.i fun Y=>?_))
 refine AWP.cond rfl (fun hb=>?_) (fun hb=>?_)
 ·have hb:a.length ≠ b.length:=by simp at hb;omega
  (repeat (first | refine WK ?_ | refine All.i fun X=>?_ | refine AllY.i fun Y=>?_))
  (refine AWP.ret ?_;(repeat (first | refine inB_r ?_ | refine andThen_r ?_));refine retQ_r ?_);refine Ends.ps ?_
  rw [decide_eq_false fun e=>hb (by rw [e])]
 ·have hb:a.length = b.length:=by simp at hb;omega
  (repeat (first | refine WK ?_ | refine All.i fun X=>?_ | refine AllY.i fun Y=>?_))
  refine AWP.lp (fun i:Nat=>⟨[(0,entsA a),(1,entsA b),(12,iA (a.map entA).length),(13,iA i)],Sf⟩) (fun i=>i ≤ a.length ∧ ∀ j (h:j < a.length),j < i → a[j] = b[j]'(by omega)) (fun i=>a.length - i) 0 ⟨Nat.zero_le _,fun j h hj=>absurd hj (by omega)⟩ ?_
  rintro i ⟨hi,he⟩
  (repeat (first | refine WK ?_ | refine All.i fun X=>?_ | refine AllY.i fun Y=>?_))
  refine AWP.cond rfl (fun hc=>?_) (fun hc=>?_)
  ·have h:i < a.length:=by simpa using hc
   have h':i < b.length:=by omega
   obtain ⟨x,hx⟩:∃ x,a[i] = x:=⟨_,rfl⟩
   obtain ⟨y,hy⟩:∃ y,b[i] = y:=⟨_,rfl⟩
   have hat1:(a.map entA)[i]? = some (entA x):=by rw [List.getElem?_map,List.getElem?_eq_getElem h,hx];rfl
   have hat2:(b.map entA)[i]? = some (entA y):=by rw [List.getElem?_map,List.getElem?_eq_getElem h',hy];rfl
   (repeat (first | refine WK ?_ | refine All.i fun X=>?_ | refine AllY.i fun Y=>?_))
   (repeat refine WF ?_);refine AWP.region_run (by kernel_rfl) (by kernel_rfl) ?_;(repeat (first | (refine RGo.gN ?_;first | refine RGo.p (W.idxL rfl rfl rfl hat1) rfl ?_ | refine RGo.p (W.idxL rfl rfl rfl hat2) rfl ?_ | refine RGo.p (W.neP _ _ (by kernel_rfl) (entNeq x.n x.gen y.n y.gen) rfl rfl) rfl ?_) | (refine RGo.gQ ?_;first | refine RGo.p (W.idxL rfl rfl rfl hat1) rfl ?_ | refine RGo.p (W.idxL rfl rfl rfl hat2) rfl ?_ | refine RGo.p (W.neP _ _ (by kernel_rfl) (entNeq x.n x.gen y.n y.gen) rfl rfl) rfl ?_) | refine RK ?_ | refine RGo.nil (by kernel_rfl) ?_))
   (repeat (first | refine WK ?_ | refine All.i fun X=>?_ | refine AllY.i fun Y=>?_))
   have hne:=ent_ne x y
   refine AWP.cond rfl (fun hd=>?_) (fun hd=>?_)
   ·have hd:x ≠ y:=by rw [hne] at hd;exact of_decide_eq_true hd
    (repeat (first | refine WK ?_ | refine All.i fun X=>?_ | refine AllY.i fun Y=>?_))
    (refine AWP.ret ?_;(repeat (first | refine inB_r ?_ | refine andThen_r ?_));refine retQ_r ?_);refine Ends.ps ?_
    rw [decide_eq_false fun e=>hd (by subst e;rw [← hx,← hy])]
   ·have hd:x = y:=by rw [hne] at hd;exact Decidable.not_not.1 (of_decide_eq_false hd)
    (repeat (first | refine WK ?_ | refine All.i fun X=>?_ | refine AllY.i fun Y=>?_))
    refine lp_next (i + 1) ⟨h,fun j h1 h2=>?_⟩
    by_cases e:j = i
    ·subst e;rw [hx,hy,hd]
    ·exact he j h1 (by omega)
  ·have h:¬ i < a.length:=by simpa using hc
   (repeat (first | refine WK ?_ | refine All.i fun X=>?_ | refine AllY.i fun Y=>?_))
   (refine AWP.ret ?_;(repeat (first | refine inB_r ?_ | refine andThen_r ?_));refine retQ_r ?_);refine Ends.ps ?_
   rw [decide_eq_true (List.ext_getElem hb fun j h1 h2=>he j h1 (by omega))]
theorem cmdCopy_ps (c:Cmd) (hl:c.comps.length ≤ 1099511627776) (hv:∀ d ∈ c.comps,d.vals.length ≤ 1099511627776):PS Tryz.prog 61 [cmdA c] (cmdA c):=by
 have hcp:=copyComps_ps c.comps hl hv
 refine Spec.of (nt:=8) (res:=[.cell 2 57]) Tryz.func61 rfl (by kernel_rfl) rfl rfl rfl fun Sf=>?_
 (repeat refine WF ?_);refine AWP.region ?_;(repeat (first | refine WO ?_ | refine All.i fun P=>?_ | refine AllY.i fun Y=>?_));refine AOps.nil ?_;(repeat refine WN ?_)
 (repeat first | refine AOps.nil ?_ | refine WF ?_)
 (repeat refine WF ?_);refine AWP.region ?_;(repeat (first | (refine AOps.gN ?_;first | (refine AOps.g_callf ?_;first | refine AOps.c1 (h:=(hcp ..)) (k:=?_))) | refine WO ?_ | refine All.i fun X=>?_ | refine AllY.i fun Y=>?_));refine AOps.nil ?_;(repeat refine WN ?_)
 (repeat first | refine AOps.nil ?_ | refine WF ?_)
 (repeat refine WF ?_);refine AWP.region ?_;(repeat (first | refine WO ?_ | refine All.i fun X=>?_ | refine AllY.i fun Y=>?_));refine AOps.nil ?_;(repeat refine WN ?_)
 (refine AWP.ret ?_;(repeat (first | refine inB_r ?_ | refine andThen_r ?_));refine retQ_r ?_)
 exact Ends.id (rs:=[cmdA c]) rfl
theorem pick_no (w:Wd) (n:Int) (h:w.items = []):PS Tryz.prog 12 [wdA false w,iA n] (.tup [entA ⟨0,0⟩,bA false]):=by
 refine Spec.of (nt:=21) (res:=[.cell 4 32,.tmp 5]) Tryz.func12 rfl (by kernel_rfl) rfl rfl rfl fun Sf=>?_
 (repeat refine WF ?_);refine AWP.region ?_;(repeat (first | (refine AOps.gN ?_;first | (refine AOps.g_box ?_;refine AOps.goB ?_)) | refine WO ?_ | refine All.i fun R=>?_ | refine AllY.i fun Y=>?_));refine AOps.nil ?_;(repeat refine WN ?_)
 (repeat (first | refine WK ?_ | refine All.i fun X=>?_ | refine AllY.i fun Y=>?_))
 refine AWP.cond_t rfl (by rw [h];rfl) ?_
 (repeat (first | refine WK ?_ | refine All.i fun X=>?_ | refine AllY.i fun Y=>?_))
 (refine AWP.ret ?_;(repeat (first | refine inB_r ?_ | refine andThen_r ?_));refine retQ_r ?_)
 exact Ends.cv [entA ⟨0,0⟩,bA false] [entA ⟨0,0⟩,bA false] (.cons (.agg (.cons .same (.cons .same .nil))) (.cons (.cell .same) .nil))
theorem pick_yes (w:Wd) (n:Int) (i:Nat) (it:Item) (hi:n % (w.items.length:Int) = i) (h:w.items[i]? = some it) (hl:w.items.length ≤ 4611686018427387904):PS Tryz.prog 12 [wdA false w,iA n] (.tup [entA it.ent,bA true]):=by
 have him:(w.items.map (itemA false)).length = w.items.length:=List.length_map _
 have hil:i < w.items.length:=(List.getElem?_eq_some_iff.1 h).1
 have hb:=below_ps n (w.items.map (itemA false)).length (by omega) (by omega)
 rw [him,hi,← him] at hb
 obtain ⟨⟨en,eg⟩,cs⟩:=it
 have hat:(w.items.map (itemA false))[i]? = some (itemA false ⟨⟨en,eg⟩,cs⟩):=by rw [List.getElem?_map,h];rfl
 refine Spec.of (nt:=21) (res:=[.cell 4 32,.tmp 5]) Tryz.func12 rfl (by kernel_rfl) rfl rfl rfl fun Sf=>?_
 (repeat refine WF ?_);refine AWP.region ?_;(repeat (first | (refine AOps.gN ?_;first | (refine AOps.g_box ?_;refine AOps.goB ?_)) | refine WO ?_ | refine All.i fun R=>?_ | refine AllY.i fun Y=>?_));refine AOps.nil ?_;(repeat refine WN ?_)
 (repeat (first | refine WK ?_ | refine All.i fun X=>?_ | refine AllY.i fun Y=>?_))
 refine AWP.cond_f rfl (decide_eq_false (by omega)) ?_
 (repeat refine WF ?_);refine AWP.region_run (by kernel_rfl) (by kernel_rfl) ?_;(repeat (first | (refine RGo.gN ?_;first | refine RGo.c2 (h:=hb) (k:=?_)) | (refine RGo.gQ ?_;first | refine RGo.c2 (h:=hb) (k:=?_)) | refine RK ?_ | refine RGo.nil (by kernel_rfl) ?_))
 (refine AWP.ret ?_;(repeat (first | refine inB_r ?_ | refine andThen_r ?_));refine retQ_r ?_)
 exact Ends.cv [entA ⟨en,eg⟩,bA true] [entA ⟨en,eg⟩,bA true] (.cons (.agg (.cons .same (.cons .same .nil))) (.cons (.cell .same) .nil))
def compVals (c:Nat) (n:Int) (l:List Int):List Int:=(List.range c).map fun j=>l.getD j n
theorem compVals_len (c:Nat) (n:Int) (l:List Int):(compVals c n l).length = c:=by simp [compVals]
theorem compVals_succ (c:Nat) (n:Int) (l:List Int):compVals (c + 1) n l = compVals c n l ++ [l.getD c n]:=by simp [compVals,List.range_succ]
theorem comp_ps (ks:List Kind) (n:Int) (l:List Int) (i:Nat) (hil:i < ks.length) (hi:n % (ks.length:Int) = i) (h8:(ks[i]).fields.length ≤ 8) (hlen:ks.length ≤ 1099511627776) :
  PS Tryz.prog 15 [kindsA false false ks,iA n,intsA false l] (compA false ⟨i,compVals (ks[i]).fields.length n l⟩):=by
 refine Spec.of (nt:=42) (res:=[.cell 6 42]) Tryz.func15 rfl (by kernel_rfl) rfl rfl rfl fun Sf=>?_
 have hb0:PS Tryz.prog 46 [iA n,iA (ks.map (kindA false)).length] (iA i):=by
  have:=below_ps n (ks.length:Int) (by omega) (by omega)
  rw [hi] at this
  simpa using this
 (repeat (first | (refine AOps.gN ?_;first | (refine AOps.g_callf ?_;first | refine AOps.c2 (h:=(hb0 ..)) (k:=?_))) | refine WK ?_ | refine All.i fun X=>?_ | refine AllY.i fun Y=>?_))
 rename_i R
 refine AWP.adoptIn 3 1 .here (fun F=>.cons (.agg (.cons .same (.cons (.base .nil) .nil))) .nil) fun F=>?_
 refine AWP.lp3 (fun (j F:Nat) (L:List AV)=>⟨[(1,iA n),(2,intsA false l),(6,.ptr R 0 0),(7,.ptr X 0 0),(21,iA ((ks[i]).fields.map fieldA).length),(22,iA j)],(F,.row 3 1 L) :: (X,.row 42 2 [.agg [iA i,.sl F 0 j]]) :: (R,.row 42 2 [.agg [iA 0,.prim (.slice none 0 0)]]) :: Sf⟩) (fun j _ L=>j ≤ (ks[i]).fields.length ∧ L = (compVals j n l).map iA) (fun j _ _=>(ks[i]).fields.length - j) 0 F [] ⟨Nat.zero_le _,rfl⟩ ?_
 rintro j F L ⟨hj,hL⟩
 have hLl:L.length = j:=by rw [hL,List.length_map,compVals_len]
 (repeat (first | refine WK ?_ | refine All.i fun X=>?_ | refine AllY.i fun Y=>?_))
 refine AWP.cond rfl (fun hb=>?_) (fun hb=>?_)
 ·have h:j < (ks[i]).fields.length:=by rw [decide_eq_true_eq,List.length_map] at hb;omega
  (repeat (first | refine WK ?_ | refine All.i fun X=>?_ | refine AllY.i fun Y=>?_))
  refine AWP.cond rfl (fun hc=>?_) (fun hc=>?_)
  ·have hc:j < l.length:=by simpa using hc
   (repeat (first | refine WK ?_ | refine All.i fun X=>?_ | refine AllY.i fun Y=>?_))
   refine lp_next3 (j + 1) _ _ ⟨h,?_⟩
   rw [compVals_succ,List.map_append,hL,show l.getD j n = l[j] from by simp [List.getD_eq_getElem?_getD,hc]]
   rfl
  ·have hc:¬ j < l.length:=by simpa using hc
   (repeat (first | refine WK ?_ | refine All.i fun X=>?_ | refine AllY.i fun Y=>?_))
   refine lp_next3 (j + 1) _ _ ⟨h,?_⟩
   rw [compVals_succ,List.map_append,hL,show l.getD j n = n from by simp [List.getD_eq_getElem?_getD,List.getElem?_eq_none (Nat.le_of_not_lt hc)]]
   rfl
 ·have h:j = (ks[i]).fields.length:=by rw [decide_eq_false_iff_not,List.length_map] at hb;omega
  subst h
  (repeat first | refine AOps.nil ?_ | refine WF ?_)
  refine AWP.iceIn (X:=F) .here (.next .here) rfl (.cons (.agg (.cons .same (.cons (.base (.sl (by omega))) .nil))) .nil) ?_
  have hF:AV.frzs ((L.drop 0).take (ks[i]).fields.length) = (compVals (ks[i]).fields.length n l).map iA:=by
   rw [List.drop_zero,List.take_of_length_le (by omega),hL]
   exact Frzs.h
  rw [hF]
  (repeat (first | refine WK ?_ | refine All.i fun X=>?_ | refine AllY.i fun Y=>?_))
  (refine AWP.ret ?_;(repeat (first | refine inB_r ?_ | refine andThen_r ?_));refine retQ_r ?_)
  refine Ends.id (rs:=[compA false ⟨i,compVals (ks[i]).fields.length n l⟩]) rfl (.cons (.cell (p:=2) rfl (.next (.next .here)) TAg.h TSize.h rfl rfl) rfl .nil)
theorem genWorld_ks (l:List Int):0 < (genWorld l).kinds.length ∧ (genWorld l).kinds.length ≤ 4:=⟨genKinds_pos l,(genKinds_small l).1⟩
theorem comp_fits {ks:List Kind} (hk:checkErr ks = 0) {i:Nat} (hi:i < ks.length) (n:Int) (l:List Int):FitOK ks ⟨i,compVals (ks[i]).fields.length n l⟩:=by
 refine ⟨by dsimp only;omega,by dsimp only;omega,ks[i],by dsimp only;rw [Int.toNat_natCast,List.getElem?_eq_getElem hi],?_⟩
 rw [fitOf_ok ((checkErr_one hk).2 _ (List.getElem_mem hi)) (by rw [compVals_len])]
theorem idx_of (n:Int) {m:Nat} (h:0 < m):∃ i:Nat,n % (m:Int) = i ∧ i < m :=
 ⟨(n % (m:Int)).toNat,by have:=Int.emod_nonneg n (b:=(m:Int)) (by omega);omega,by have:=Int.emod_lt_of_pos n (b:=(m:Int)) (by omega);have:=Int.emod_nonneg n (b:=(m:Int)) (by omega);omega⟩
def pickP (w:Wd) (n:Int):Ent × Bool:=match w.items[(n % (w.items.length:Int)).toNat]? with
 | some it=>(it.ent,true)
 | none=>(⟨0,0⟩,false)
theorem pickP_ps (w:Wd) (n:Int) (hl:w.items.length ≤ 4611686018427387904):PS Tryz.prog 12 [wdA false w,iA n] (.tup [entA (pickP w n).1,bA (pickP w n).2]):=by
 unfold pickP
 cases h:w.items with
 | nil=>exact pick_no w n h
 | cons it l =>
  obtain ⟨i,hi,hil⟩:=idx_of n (m:=(it :: l).length) (by simp)
  have h2:w.items[i]? = some (it :: l)[i]:=by rw [h];exact List.getElem?_eq_getElem hil
  have:=pick_yes w n i (it :: l)[i] (by rw [h];exact hi) h2 hl
  rw [hi,Int.toNat_natCast,List.getElem?_eq_getElem hil]
  exact this
def rawE (w:Wd) (n a:Int):Ent:=if (pickP w n).2 = true ∧ a.tmod 5 ≠ 0 then (pickP w n).1 else ⟨n % 12,IntKind.i64.wrap (n.tdiv 16) % 3⟩
def rawC (ks:List Kind) (b:Int) (l:List Int):Comp:=match ks[(b % (ks.length:Int)).toNat]? with
 | some k=>⟨b % (ks.length:Int),compVals k.fields.length b l⟩
 | none=>⟨0,[]⟩
def cmdAt (w:Wd) (l:List Int) (i:Nat):Cmd:=⟨l.getD (i + 1) 0 % 4,rawE w (l.getD i 0) (l.getD (i + 1) 0),l.getD (i + 2) 0 % (w.kinds.length:Int),[rawC w.kinds (l.getD (i + 2) 0) (l.drop i)]⟩
def cmdsN (l:List Int):Nat:=min 30 (l.length / 3)
def cmdsOf (w:Wd) (l:List Int):List Cmd:=(List.range (cmdsN l)).map fun j=>cmdAt w l (3 * j)
theorem cmdsOf_len (w:Wd) (l:List Int):(cmdsOf w l).length ≤ 30:=by
 unfold cmdsOf cmdsN
 rw [List.length_map,List.length_range]
 omega
theorem cmdAt_ok {w:Wd} (hw:WdOK w) (h0:0 < w.kinds.length) (l:List Int) (i:Nat):(cmdOne w.kinds (cmdAt w l i)).2 = 0 ∧ I64 (cmdAt w l i).ent.n ∧ (cmdAt w l i).comps.length = 1 ∧ ∀ d ∈ (cmdAt w l i).comps,d.vals.length ≤ 8:=by
 obtain ⟨c,hc⟩:∃ c,cmdAt w l i = c:=⟨_,rfl⟩
 obtain ⟨k,hk,hkl⟩:=idx_of (l.getD (i + 2) 0) h0
 have hka:w.kinds[k]? = some w.kinds[k]:=List.getElem?_eq_getElem hkl
 have hrc:rawC w.kinds (l.getD (i + 2) 0) (l.drop i) = ⟨(k:Nat),compVals (w.kinds[k]).fields.length (l.getD (i + 2) 0) (l.drop i)⟩:=by
  unfold rawC
  rw [hk,Int.toNat_natCast,hka]
 have hfo:=comp_fits hw.ks hkl (l.getD (i + 2) 0) (l.drop i)
 have hft:=wFit_one hw.ks hfo
 have hen:I64 (rawE w (l.getD i 0) (l.getD (i + 1) 0)).n:=by
  unfold rawE
  split
  ·unfold pickP
   split
   ·rename_i it hit
    have:=hw.it it (List.mem_of_getElem? hit)
    have:=hw.gl
    constructor <;> dsimp only <;> omega
   ·constructor <;> decide
  ·constructor <;> dsimp only <;> omega
 have h8:=(oneErr_zero ((checkErr_one hw.ks).2 _ (List.getElem_mem hkl))).2.1
 refine ⟨?_,hen,rfl,fun d hd=>?_⟩
 ·have h4:0 ≤ l.getD (i + 1) 0 % 4 ∧ l.getD (i + 1) 0 % 4 < 4:=by omega
  unfold cmdOne cmdAt
  dsimp only
  rw [hrc,hft]
  split
  ·rfl
  ·split
   ·rw [hk,if_neg (by omega)]
   ·split
    ·rfl
    ·rw [if_pos (by omega)]
 ·unfold cmdAt at hd
  dsimp only at hd
  rw [hrc,List.mem_singleton] at hd
  subst hd
  show (compVals _ _ _).length ≤ 8
  rw [compVals_len]
  exact h8
theorem cmdsOf_ok {w:Wd} (hw:WdOK w) (h0:0 < w.kinds.length) (l:List Int):CmdsL w.kinds (cmdsOf w l) ∧ ∀ c ∈ cmdsOf w l,CsL c.comps:=by
 have h:∀ c ∈ cmdsOf w l,∃ i,cmdAt w l i = c:=fun c hc=>by
  obtain ⟨j,_,rfl⟩:=List.mem_map.1 hc
  exact ⟨_,rfl⟩
 refine ⟨⟨fun c hc=>?_,fun c hc=>?_,fun c hc=>?_⟩,fun c hc=>?_⟩ <;> obtain ⟨i,rfl⟩:=h c hc <;> obtain ⟨h1,h2,h3,h4⟩:=cmdAt_ok hw h0 l i
 ·exact h1
 ·exact h2
 ·omega
 ·exact ⟨by omega,fun d hd=>by have:=h4 d hd;omega⟩
set_option maxRecDepth 8000 in
theorem cmds_ps (w:Wd) (l:List Int) (hw:WdOK w) (h0:0 < w.kinds.length) (hl:l.length * 8 ≤ 140737488351232):PS Tryz.prog 24 [wdA false w,intsA false l] (cmdsA true (cmdsOf w l)):=by
 have hlm:(l.map iA).length = l.length:=List.length_map _
 have hkm:(w.kinds.map (kindA false)).length = w.kinds.length:=List.length_map _
 have hil:=hw.il
 have hgl:=hw.gl
 have hk16:=(checkErr_one hw.ks).1
 refine Spec.of (nt:=85) (res:=[.tmp 4]) Tryz.func24 rfl (by kernel_rfl) rfl rfl rfl fun Sf=>?_
 (repeat refine WF ?_);refine AWP.region ?_;(repeat (first | (refine AOps.gN ?_;first | (refine AOps.g_box ?_;refine AOps.goB ?_)) | refine WO ?_ | refine All.i fun X=>?_ | refine AllY.i fun Y=>?_));refine AOps.nil ?_;(repeat refine WN ?_)
 (repeat first | refine AOps.nil ?_ | refine WF ?_)
 (repeat refine WF ?_);refine AWP.region ?_;(repeat (first | refine WO ?_ | refine All.i fun X=>?_ | refine AllY.i fun Y=>?_));refine AOps.nil ?_;(repeat refine WN ?_)
 (repeat first | refine AOps.nil ?_ | refine WF ?_)
 (repeat refine WF ?_);refine AWP.region ?_;(repeat (first | refine WO ?_ | refine All.i fun X=>?_ | refine AllY.i fun Y=>?_));refine AOps.nil ?_;(repeat refine WN ?_)
 (repeat first | refine AOps.nil ?_ | refine WF ?_)
 refine AWP.adopt (d:=5) 57 5 rfl fun O=>?_
 refine AWP.lp2 (fun (j O:Nat)=>⟨[(1,intsA false l),(2,.fp (wdA false w).cells),(5,.sl O 0 j),(6,iA (3 * j:Nat))],(O,.row 57 5 (((List.range j).map fun j=>cmdAt w l (3 * j)).map cmdA)) :: Sf⟩) (fun j _=>j ≤ cmdsN l) (fun j _=>cmdsN l - j) 0 O (Nat.zero_le _) ?_
 rintro j O hj
 have hj30:j ≤ 30:=by unfold cmdsN at hj;omega
 have hrl:j = (((List.range j).map fun j=>cmdAt w l (3 * j)).map cmdA).length:=by rw [List.length_map,List.length_map,List.length_range]
 by_cases hjk:j < cmdsN l
 ·have h1:3 * j + 2 < l.length:=by unfold cmdsN at hjk;omega
  have h2:3 * j < 90:=by unfold cmdsN at hjk;omega
  have hd1:decide (((3 * j:Nat):Int) + 2 < ((l.map iA).length:Nat)) = true:=decide_eq_true (by omega)
  have hd2:decide (((3 * j:Nat):Int) < 90) = true:=decide_eq_true (by omega)
  (repeat refine WF ?_);refine AWP.region ?_;(repeat (first | (refine AOps.gN ?_;first | refine AOps.go (h:=W.addE (((3 * j:Nat):Int) + 2) (by omega) (by omega) rfl rfl) (k:=?_)) | refine WO ?_ | refine All.i fun X=>?_ | refine AllY.i fun Y=>?_));refine AOps.nil ?_;(repeat refine WN ?_)
  refine AWP.cond_t rfl hd2 ?_
  obtain ⟨n,hn⟩:∃ n,l.getD (3 * j) 0 = n:=⟨_,rfl⟩
  obtain ⟨a,ha⟩:∃ n,l.getD (3 * j + 1) 0 = n:=⟨_,rfl⟩
  obtain ⟨b,hb⟩:∃ n,l.getD (3 * j + 2) 0 = n:=⟨_,rfl⟩
  have hgt:∀ i (h:i < l.length) v,l.getD i 0 = v → (l.map iA)[i]? = some (iA v):=fun i h v e=>by
   rw [List.getElem?_map,List.getElem?_eq_getElem h,← e,List.getD_eq_getElem?_getD,List.getElem?_eq_getElem h];rfl
  have hat0:=hgt _ (by omega) _ hn
  have hat1:=hgt _ (by omega) _ ha
  have hat2:=hgt _ (by omega) _ hb
  have hb12:=below_ps n 12 (by decide) (by decide)
  have hb3:=below_ps (IntKind.i64.wrap (n.tdiv 16)) 3 (by decide) (by decide)
  have hb4:=below_ps a 4 (by decide) (by decide)
  have hbk:=below_ps b ((w.kinds.map (kindA false)).length:Nat) (by omega) (by omega)
  have hpk:=pickP_ps w n (by omega)
  obtain ⟨⟨pe,pb⟩,hpe⟩:∃ q,pickP w n = q:=⟨_,rfl⟩
  rw [hpe] at hpk
  dsimp only at hpk
  (repeat first | refine AOps.nil ?_ | refine WF ?_)
  (repeat refine WF ?_);refine AWP.region ?_;(repeat (first | (refine AOps.gN ?_;first | refine AOps.go (h:=W.idxL rfl rfl rfl hat0) (k:=?_)) | refine WO ?_ | refine All.i fun X=>?_ | refine AllY.i fun Y=>?_));refine AOps.nil ?_;(repeat refine WN ?_)
  (repeat first | refine AOps.nil ?_ | refine WF ?_)
  (repeat refine WF ?_);refine AWP.region ?_;(repeat (first | (refine AOps.gN ?_;first | (refine AOps.g_callf ?_;first | refine AOps.c2 (h:=(hb12 ..)) (k:=?_) | refine AOps.c2 (h:=(hb3 ..)) (k:=?_)) | refine AOps.go (h:=W.quoW rfl rfl (by decide)) (k:=?_)) | refine WO ?_ | refine All.i fun E=>?_ | refine AllY.i fun Y=>?_));refine AOps.nil ?_;(repeat refine WN ?_)
  (repeat first | refine AOps.nil ?_ | refine WF ?_)
  (repeat refine WF ?_);refine AWP.region ?_;(repeat (first | (refine AOps.gN ?_;first | (refine AOps.g_callf ?_;first | refine AOps.c2 (h:=(hpk ..)) (k:=?_))) | refine WO ?_ | refine All.i fun X=>?_ | refine AllY.i fun Y=>?_));refine AOps.nil ?_;(repeat refine WN ?_)
  (repeat first | refine AOps.nil ?_ | refine WF ?_)
  (repeat refine WF ?_);refine AWP.region ?_;(repeat (first | (refine AOps.gQ ?_;first | refine AOps.goQ1 (h:=W.addE (((3 * j:Nat):Int) + 1) (by omega) (by omega) .q1 .q1) (k:=?_) | refine AOps.goQ1 (h:=W.idxL (a:=3 * j + 1) .q1 .q1 (by omega) hat1) (k:=?_) | refine AOps.goQ1 (h:=W.rem .q1 .q1 (by decide)) (k:=?_)) | refine WO ?_ | refine All.i fun X=>?_ | refine AllY.i fun Y=>?_));refine AOps.nil ?_;(repeat refine WN ?_)
  have hre:rawE w n a = if pb = true ∧ a.tmod 5 ≠ 0 then pe else ⟨n % 12,IntKind.i64.wrap (n.tdiv 16) % 3⟩:=by unfold rawE;rw [hpe]
  refine AWP.joinS (fun e:Ent=>e = rawE w n a) (fun e=>⟨[(1,intsA false l),(2,.fp (wdA false w).cells),(5,.sl O 0 j),(6,iA (3 * j:Nat)),(8,.ptr E 0 0)],(E,.row 32 2 [entA e]) :: (O,.row 57 5 (((List.range j).map fun j=>cmdAt w l (3 * j)).map cmdA)) :: Sf⟩) ?_ ?_
  ·refine AWP.cond rfl (fun hc=>?_) (fun hc=>?_)
   ·rw [Bool.and_eq_true,decide_eq_true_eq] at hc
    rw [if_pos hc] at hre
    (repeat first | refine AOps.nil ?_ | refine WF ?_)
    (repeat refine WF ?_);refine AWP.region ?_;(repeat (first | refine WO ?_ | refine All.i fun X=>?_ | refine AllY.i fun Y=>?_));refine AOps.nil ?_;(repeat refine WN ?_)
    exact jn pe hre.symm
   ·have hc:¬ (pb = true ∧ a.tmod 5 ≠ 0):=fun e=>by rw [e.1,decide_eq_true e.2] at hc;cases hc
    rw [if_neg hc] at hre
    (repeat first | refine AOps.nil ?_ | refine WF ?_)
    exact jn _ hre.symm
  rintro e rfl
  clear hre
  obtain ⟨⟨en,eg⟩,he⟩:∃ e,rawE w n a = e:=⟨_,rfl⟩
  rw [he]
  (repeat first | refine AOps.nil ?_ | refine WF ?_)
  refine AWP.rs fun Z=>?_
  (repeat refine WF ?_);refine AWP.region_run (by kernel_rfl) (by kernel_rfl) ?_;(repeat (first | (refine RGo.gN ?_;first | (refine RGo.g_callf ?_;first | refine RGo.c2 (h:=(hb4 ..)) (k:=?_) | refine RGo.c2 (h:=(hbk ..)) (k:=?_)) | refine RGo.go (h:=W.addE (((3 * j:Nat):Int) + 1) (by omega) (by omega) rfl rfl) (k:=?_) | refine RGo.go (h:=W.addE (((3 * j:Nat):Int) + 2) (by omega) (by omega) rfl rfl) (k:=?_) | refine RGo.go (h:=W.idxL (a:=3 * j + 1) rfl rfl (by omega) hat1) (k:=?_) | refine RGo.go (h:=W.idxL (a:=3 * j + 2) rfl rfl (by omega) hat2) (k:=?_)) | (refine RGo.gQ ?_;first | (refine RGo.g_callf ?_;first | refine RGo.c2 (h:=(hb4 ..)) (k:=?_) | refine RGo.c2 (h:=(hbk ..)) (k:=?_)) | refine RGo.go (h:=W.addE (((3 * j:Nat):Int) + 1) (by omega) (by omega) rfl rfl) (k:=?_) | refine RGo.go (h:=W.addE (((3 * j:Nat):Int) + 2) (by omega) (by omega) rfl rfl) (k:=?_) | refine RGo.go (h:=W.idxL (a:=3 * j + 1) rfl rfl (by omega) hat1) (k:=?_) | refine RGo.go (h:=W.idxL (a:=3 * j + 2) rfl rfl (by omega) hat2) (k:=?_)) | refine RK ?_ | refine RGo.nil (by kernel_rfl) ?_))
  obtain ⟨k,hk,hkl⟩:=idx_of b h0
  have hka:w.kinds[k]? = some w.kinds[k]:=List.getElem?_eq_getElem hkl
  have h8:=(oneErr_zero ((checkErr_one hw.ks).2 _ (List.getElem_mem hkl))).2.1
  have hcp:=comp_ps w.kinds b (l.drop (3 * j)) k hkl hk h8 (by omega)
  have hrc:rawC w.kinds b (l.drop (3 * j)) = ⟨(k:Nat),compVals (w.kinds[k]).fields.length b (l.drop (3 * j))⟩:=by
   unfold rawC
   rw [hk,Int.toNat_natCast,hka]
  rw [← hrc] at hcp
  have hdr:intsA false (l.drop (3 * j)) = .lst false 3 1 ((l.map iA).drop (3 * j)):=by rw [intsA,List.map_drop]
  rw [hdr] at hcp
  have hca:cmdAt w l (3 * j) = ⟨a % 4,⟨en,eg⟩,b % ((w.kinds.map (kindA false)).length:Nat),[rawC w.kinds b (l.drop (3 * j))]⟩:=by
   unfold cmdAt
   rw [hn,ha,hb,he,hkm]
  obtain ⟨⟨ck,cv⟩,hc⟩:∃ c,rawC w.kinds b (l.drop (3 * j)) = c:=⟨_,rfl⟩
  rw [hc] at hca hcp
  (repeat first | refine AOps.nil ?_ | refine WF ?_)
  (repeat refine WF ?_);refine AWP.region_run (by kernel_rfl) (by kernel_rfl) ?_;(repeat (first | (refine RGo.gN ?_;first | (refine RGo.g_callf ?_;first | refine RGo.c3 (h:=(hcp ..)) (k:=?_)) | refine RGo.go (h:=W.addE (((3 * j:Nat):Int) + 2) (by omega) (by omega) rfl rfl) (k:=?_) | refine RGo.go (h:=W.idxL (a:=3 * j + 2) rfl rfl (by omega) hat2) (k:=?_) | refine RGo.go (h:=W.loL (a:=3 * j) rfl rfl rfl (by omega)) (k:=?_) | refine RGo.go (v:=.lst false 42 2 [compA false ⟨ck,cv⟩]) (h:=W.litF1 (v0:=compA false ⟨ck,cv⟩) rfl rfl (.inl rfl) (by decide) (by decide) rfl) (k:=?_)) | (refine RGo.gQ ?_;first | (refine RGo.g_callf ?_;first | refine RGo.c3 (h:=(hcp ..)) (k:=?_)) | refine RGo.go (h:=W.addE (((3 * j:Nat):Int) + 2) (by omega) (by omega) rfl rfl) (k:=?_) | refine RGo.go (h:=W.idxL (a:=3 * j + 2) rfl rfl (by omega) hat2) (k:=?_) | refine RGo.go (h:=W.loL (a:=3 * j) rfl rfl rfl (by omega)) (k:=?_) | refine RGo.go (v:=.lst false 42 2 [compA false ⟨ck,cv⟩]) (h:=W.litF1 (v0:=compA false ⟨ck,cv⟩) rfl rfl (.inl rfl) (by decide) (by decide) rfl) (k:=?_)) | refine RK ?_ | refine RGo.nil (by kernel_rfl) ?_))
  (repeat first | refine AOps.nil ?_ | refine WF ?_)
  have hnx:(((List.range j).map fun j=>cmdAt w l (3 * j)).map cmdA) ++ [cmdA (cmdAt w l (3 * j))] = ((List.range (j + 1)).map fun j=>cmdAt w l (3 * j)).map cmdA:=by rw [List.range_succ,List.map_append,List.map_append];rfl
  rw [hca] at hnx
  obtain ⟨M,hM⟩:∃ M,(((List.range j).map fun j=>cmdAt w l (3 * j)).map cmdA) = M:=⟨_,rfl⟩
  rw [hM] at hrl hnx ⊢
  have hb1:M.length + 1 ≤ 1099511627776:=by omega
  (repeat refine WF ?_);refine AWP.region ?_;(repeat (first | (refine AOps.gN ?_;first | (refine AOps.g_lit ?_;refine AOps.goL (cmdA ⟨a % 4,⟨en,eg⟩,b % ((w.kinds.map (kindA false)).length:Nat),[⟨ck,cv⟩]⟩) ?_)) | refine WO ?_ | refine All.i fun X=>?_ | refine AllY.i fun Y=>?_));refine AOps.nil ?_;(repeat refine WN ?_)
  dsimp only [setAll,List.set_cons_zero,List.set_cons_succ,List.cons_append,List.nil_append]
  rw [hnx]
  have hj1:j + [cmdA ⟨a % 4,⟨en,eg⟩,b % ((w.kinds.map (kindA false)).length:Nat),[⟨ck,cv⟩]⟩].length = j + 1:=rfl
  rw [hj1]
  (repeat first | refine AOps.nil ?_ | refine WF ?_)
  (repeat refine WF ?_);refine AWP.region ?_;(repeat (first | (refine AOps.gN ?_;first | refine AOps.go (h:=W.addE (((3 * j:Nat):Int) + 3) (by omega) (by omega) rfl rfl) (k:=?_)) | refine WO ?_ | refine All.i fun X=>?_ | refine AllY.i fun Y=>?_));refine AOps.nil ?_;(repeat refine WN ?_)
  rw [show (((3 * j:Nat):Int) + 3) = ((3 * (j + 1):Nat):Int) by omega]
  exact lp_next2 (j + 1) Y hjk (by omega)
 ·have hjk:j = cmdsN l:=by omega
  have hM:((List.range j).map fun j=>cmdAt w l (3 * j)).map cmdA = (cmdsOf w l).map cmdA:=by rw [hjk];rfl
  rw [hM] at hrl ⊢
  cases hd1:decide (((3 * j:Nat):Int) + 2 < ((l.map iA).length:Nat)) with
  | false =>
   (repeat refine WF ?_);refine AWP.region ?_;(repeat (first | (refine AOps.gN ?_;first | refine AOps.go (h:=W.addE (((3 * j:Nat):Int) + 2) (by omega) (by omega) rfl rfl) (k:=?_)) | (refine AOps.gQ ?_;first | refine AOps.goNU ?_ | refine AOps.goNV ?_) | refine WO ?_ | refine All.i fun X=>?_ | refine AllY.i fun Y=>?_));refine AOps.nil ?_;(repeat refine WN ?_)
   refine AWP.cond_f rfl rfl ?_
   (repeat first | refine AOps.nil ?_ | refine WF ?_)
   (repeat refine WF ?_);refine AWP.region ?_;(repeat (first | refine WO ?_ | refine All.i fun X=>?_ | refine AllY.i fun Y=>?_));refine AOps.nil ?_;(repeat refine WN ?_)
   (refine AWP.ret ?_;(repeat (first | refine inB_r ?_ | refine andThen_r ?_));refine retQ_r ?_)
   exact Ends.cv [.sl O 0 j] [cmdsA true (cmdsOf w l)] (.cons (.cell (.sl (p:=0) .here hrl)) .nil)
  | true =>
   have hd1':=of_decide_eq_true hd1
   have hd2:decide (((3 * j:Nat):Int) < 90) = false:=decide_eq_false (by unfold cmdsN at hjk;omega)
   (repeat refine WF ?_);refine AWP.region ?_;(repeat (first | (refine AOps.gN ?_;first | refine AOps.go (h:=W.addE (((3 * j:Nat):Int) + 2) (by omega) (by omega) rfl rfl) (k:=?_)) | refine WO ?_ | refine All.i fun X=>?_ | refine AllY.i fun Y=>?_));refine AOps.nil ?_;(repeat refine WN ?_)
   refine AWP.cond_f rfl hd2 ?_
   (repeat first | refine AOps.nil ?_ | refine WF ?_)
   (repeat refine WF ?_);refine AWP.region ?_;(repeat (first | refine WO ?_ | refine All.i fun X=>?_ | refine AllY.i fun Y=>?_));refine AOps.nil ?_;(repeat refine WN ?_)
   (refine AWP.ret ?_;(repeat (first | refine inB_r ?_ | refine andThen_r ?_));refine retQ_r ?_)
   exact Ends.cv [.sl O 0 j] [cmdsA true (cmdsOf w l)] (.cons (.cell (.sl (p:=0) .here hrl)) .nil)
theorem flat_len_take (L:List (List Cmd)) (i:Nat):(L.take i).flatten.length ≤ L.flatten.length:=by
 conv=>rhs;rw [← List.take_append_drop i L,List.flatten_append,List.length_append]
 omega
theorem flat_next {L:List (List Cmd)} {i:Nat} {x:List Cmd} (h:L[i]? = some x):(L.take (i + 1)).flatten = (L.take i).flatten ++ x:=by
 rw [List.take_add_one,h,Option.toList_some,List.flatten_append]
 simp
theorem cmdJoin_ps (L:List (List Cmd)) (h2:L.length ≤ 1000) (hl:L.flatten.length ≤ 131072) (hc:∀ x ∈ L,∀ c ∈ x,CsL c.comps):PS Tryz.prog 28 [.lst false 52 1 (L.map (cmdsA false))] (.tup [cmdsA true L.flatten,iA 0]):=by
 have hLm:(L.map (cmdsA false)).length = L.length:=List.length_map _
 refine Spec.of (nt:=45) (res:=[.tmp 2,.tmp 3]) Tryz.func28 rfl (by kernel_rfl) rfl rfl rfl fun Sf=>?_
 (repeat refine WF ?_);refine AWP.region ?_;(repeat (first | refine WO ?_ | refine All.i fun X=>?_ | refine AllY.i fun Y=>?_));refine AOps.nil ?_;(repeat refine WN ?_)
 (repeat first | refine AOps.nil ?_ | refine WF ?_)
 (repeat refine WF ?_);refine AWP.region ?_;(repeat (first | refine WO ?_ | refine All.i fun X=>?_ | refine AllY.i fun Y=>?_));refine AOps.nil ?_;(repeat refine WN ?_)
 (repeat first | refine AOps.nil ?_ | refine WF ?_)
 (repeat refine WF ?_);refine AWP.region ?_;(repeat (first | refine WO ?_ | refine All.i fun X=>?_ | refine AllY.i fun Y=>?_));refine AOps.nil ?_;(repeat refine WN ?_)
 (repeat first | refine AOps.nil ?_ | refine WF ?_)
 refine AWP.lp (fun (i:Nat)=>⟨[(0,.lst false 52 1 (L.map (cmdsA false))),(4,iA ((L.take i).flatten.length:Nat)),(12,.lst false 52 1 (L.map (cmdsA false))),(13,iA (L.map (cmdsA false)).length),(14,iA i)],Sf⟩) (fun i=>i ≤ L.length) (fun i=>L.length - i) 0 (Nat.zero_le _) ?_
 rintro i hi
 (repeat refine WF ?_);refine AWP.region ?_;(repeat (first | refine WO ?_ | refine All.i fun X=>?_ | refine AllY.i fun Y=>?_));refine AOps.nil ?_;(repeat refine WN ?_)
 (repeat first | refine AOps.nil ?_ | refine WF ?_)
 refine AWP.cond rfl (fun hb=>?_) (fun hb=>?_)
 ·have h:i < L.length:=by rw [decide_eq_true_eq,hLm] at hb;omega
  obtain ⟨x,hx⟩:∃ x,L[i]? = some x:=⟨_,List.getElem?_eq_getElem h⟩
  have hat:(L.map (cmdsA false))[i]? = some (cmdsA false x):=by rw [List.getElem?_map,hx];rfl
  have hnx:=congrArg List.length (flat_next hx)
  rw [List.length_append] at hnx
  have hle:=flat_len_take L (i + 1)
  have hxm:(x.map cmdA).length = x.length:=List.length_map _
  (repeat first | refine AOps.nil ?_ | refine WF ?_)
  (repeat refine WF ?_);refine AWP.region ?_;(repeat (first | refine WO ?_ | refine All.i fun X=>?_ | refine AllY.i fun Y=>?_));refine AOps.nil ?_;(repeat refine WN ?_)
  (repeat first | refine AOps.nil ?_ | refine WF ?_)
  (repeat refine WF ?_);refine AWP.region ?_;(repeat (first | (refine AOps.gN ?_;first | refine AOps.go (h:=W.addE ((((L.take i).flatten.length:Nat):Int) + ((x.map cmdA).length:Nat)) (by omega) (by omega) rfl rfl) (k:=?_)) | refine WO ?_ | refine All.i fun X=>?_ | refine AllY.i fun Y=>?_));refine AOps.nil ?_;(repeat refine WN ?_)
  rw [show ((((L.take i).flatten.length:Nat):Int) + ((x.map cmdA).length:Nat)) = (((L.take (i + 1)).flatten.length:Nat):Int) by omega]
  (repeat first | refine AOps.nil ?_ | refine WF ?_)
  (repeat refine WF ?_);refine AWP.region ?_;(repeat (first | refine WO ?_ | refine All.i fun X=>?_ | refine AllY.i fun Y=>?_));refine AOps.nil ?_;(repeat refine WN ?_)
  refine AWP.cond_f rfl (decide_eq_false (by omega)) ?_
  (repeat first | refine AOps.nil ?_ | refine WF ?_)
  (repeat refine WF ?_);refine AWP.region ?_;(repeat (first | refine WO ?_ | refine All.i fun X=>?_ | refine AllY.i fun Y=>?_));refine AOps.nil ?_;(repeat refine WN ?_)
  exact lp_next (i + 1) h (by omega)
 ·clear hb hi
  (repeat first | refine AOps.nil ?_ | refine WF ?_)
  (repeat refine WF ?_);refine AWP.region ?_;(repeat (first | refine WO ?_ | refine All.i fun X=>?_ | refine AllY.i fun Y=>?_));refine AOps.nil ?_;(repeat refine WN ?_)
  (repeat first | refine AOps.nil ?_ | refine WF ?_)
  (repeat refine WF ?_);refine AWP.region ?_;(repeat (first | refine WO ?_ | refine All.i fun X=>?_ | refine AllY.i fun Y=>?_));refine AOps.nil ?_;(repeat refine WN ?_)
  (repeat first | refine AOps.nil ?_ | refine WF ?_)
  refine AWP.adopt (d:=7) 57 5 rfl fun O=>?_
  refine AWP.lp2 (fun (i O:Nat)=>⟨[(7,.sl O 0 (L.take i).flatten.length),(25,.lst false 52 1 (L.map (cmdsA false))),(26,iA (L.map (cmdsA false)).length),(27,iA i)],(O,.row 57 5 ((L.take i).flatten.map cmdA)) :: Sf⟩) (fun i _=>i ≤ L.length) (fun i _=>L.length - i) 0 O (Nat.zero_le _) ?_
  rintro i O hi
  (repeat refine WF ?_);refine AWP.region ?_;(repeat (first | refine WO ?_ | refine All.i fun X=>?_ | refine AllY.i fun Y=>?_));refine AOps.nil ?_;(repeat refine WN ?_)
  (repeat first | refine AOps.nil ?_ | refine WF ?_)
  refine AWP.cond rfl (fun hb=>?_) (fun hb=>?_)
  ·have h:i < L.length:=by rw [decide_eq_true_eq,hLm] at hb;omega
   obtain ⟨x,hx⟩:∃ x,L[i]? = some x:=⟨_,List.getElem?_eq_getElem h⟩
   have hat:(L.map (cmdsA false))[i]? = some (cmdsA false x):=by rw [List.getElem?_map,hx];rfl
   have hnx:=flat_next hx
   have hle:=flat_len_take L (i + 1)
   rw [hnx,List.length_append] at hle
   have hxm:(x.map cmdA).length = x.length:=List.length_map _
   have hxc:=hc x (List.mem_of_getElem? hx)
   obtain ⟨P0,hP0⟩:∃ P0,(L.take i).flatten = P0:=⟨_,rfl⟩
   rw [hP0] at hle hnx ⊢
   (repeat first | refine AOps.nil ?_ | refine WF ?_)
   (repeat refine WF ?_);refine AWP.region ?_;(repeat (first | refine WO ?_ | refine All.i fun X=>?_ | refine AllY.i fun Y=>?_));refine AOps.nil ?_;(repeat refine WN ?_)
   (repeat first | refine AOps.nil ?_ | refine WF ?_)
   (repeat refine WF ?_);refine AWP.region ?_;(repeat (first | refine WO ?_ | refine All.i fun X=>?_ | refine AllY.i fun Y=>?_));refine AOps.nil ?_;(repeat refine WN ?_)
   (repeat first | refine AOps.nil ?_ | refine WF ?_)
   refine AWP.lp2 (fun (j O:Nat)=>⟨[(7,.sl O 0 (P0 ++ x.take j).length),(25,.lst false 52 1 (L.map (cmdsA false))),(26,iA (L.map (cmdsA false)).length),(27,iA i),(31,cmdsA false x),(32,iA (x.map cmdA).length),(33,iA j)],(O,.row 57 5 ((P0 ++ x.take j).map cmdA)) :: Sf⟩) (fun j _=>j ≤ x.length) (fun j _=>x.length - j) 0 O (Nat.zero_le _) ?_ (h0:=⟨by rw [List.take_zero,List.append_nil];exact Lk.f,by rw [List.take_zero,List.append_nil];exact Sub.f⟩)
   rintro j O hj
   (repeat refine WF ?_);refine AWP.region ?_;(repeat (first | refine WO ?_ | refine All.i fun X=>?_ | refine AllY.i fun Y=>?_));refine AOps.nil ?_;(repeat refine WN ?_)
   (repeat first | refine AOps.nil ?_ | refine WF ?_)
   refine AWP.cond rfl (fun hb2=>?_) (fun hb2=>?_)
   ·have h2:j < x.length:=by rw [decide_eq_true_eq,hxm] at hb2;omega
    obtain ⟨c,hcc⟩:∃ c,x[j] = c:=⟨_,rfl⟩
    have hcm:c ∈ x:=by rw [← hcc];exact List.getElem_mem h2
    have hat2:(x.map cmdA)[j]? = some (cmdA c):=by rw [List.getElem?_map,List.getElem?_eq_getElem h2,hcc];rfl
    have hcp:=cmdCopy_ps c (hxc c hcm).1 (hxc c hcm).2
    have hnx2:P0 ++ x.take (j + 1) = (P0 ++ x.take j) ++ [c]:=by rw [List.take_succ_eq_append_getElem h2,hcc,List.append_assoc]
    have hpl:(P0 ++ x.take j).length ≤ 131072:=by rw [List.length_append,List.length_take];omega
    obtain ⟨M,hM⟩:∃ M,P0 ++ x.take j = M:=⟨_,rfl⟩
    rw [hM] at hnx2 hpl ⊢
    have hml:(M.map cmdA).length = M.length:=List.length_map _
    have hb1:(M.map cmdA).length + 1 ≤ 1099511627776:=by omega
    have hm1:M.map cmdA ++ [cmdA c] = (P0 ++ x.take (j + 1)).map cmdA:=by rw [hnx2,List.map_append];rfl
    have hm2:M.length + [cmdA c].length = (P0 ++ x.take (j + 1)).length:=by rw [hnx2,List.length_append];rfl
    (repeat first | refine AOps.nil ?_ | refine WF ?_)
    (repeat refine WF ?_);refine AWP.region ?_;(repeat (first | refine WO ?_ | refine All.i fun X=>?_ | refine AllY.i fun Y=>?_));refine AOps.nil ?_;(repeat refine WN ?_)
    (repeat first | refine AOps.nil ?_ | refine WF ?_)
    (repeat refine WF ?_);refine AWP.region ?_;(repeat (first | (refine AOps.gN ?_;first | (refine AOps.g_callf ?_;first | refine AOps.c1 (h:=(hcp ..)) (k:=?_)) | (refine AOps.g_lit ?_;refine AOps.goL (cmdA c) ?_)) | refine WO ?_ | refine All.i fun X=>?_ | refine AllY.i fun Y=>?_));refine AOps.nil ?_;(repeat refine WN ?_)
    dsimp only [setAll,List.set_cons_zero,List.set_cons_succ,List.cons_append,List.nil_append]
    rw [hm1,hm2]
    (repeat first | refine AOps.nil ?_ | refine WF ?_)
    (repeat refine WF ?_);refine AWP.region ?_;(repeat (first | refine WO ?_ | refine All.i fun X=>?_ | refine AllY.i fun Y=>?_));refine AOps.nil ?_;(repeat refine WN ?_)
    exact lp_next2 (j + 1) Y h2 (by omega)
   ·have h2:j = x.length:=by rw [decide_eq_false_iff_not,hxm] at hb2;omega
    subst h2
    rw [List.take_length,← hnx]
    (repeat first | refine AOps.nil ?_ | refine WF ?_)
    (repeat refine WF ?_);refine AWP.region ?_;(repeat (first | refine WO ?_ | refine All.i fun X=>?_ | refine AllY.i fun Y=>?_));refine AOps.nil ?_;(repeat refine WN ?_)
    exact lp_next2 (i + 1) O h (by omega)
  ·have h:i = L.length:=by rw [decide_eq_false_iff_not,hLm] at hb;omega
   subst h
   rw [List.take_length]
   (repeat first | refine AOps.nil ?_ | refine WF ?_)
   (repeat refine WF ?_);refine AWP.region ?_;(repeat (first | refine WO ?_ | refine All.i fun X=>?_ | refine AllY.i fun Y=>?_));refine AOps.nil ?_;(repeat refine WN ?_)
   (refine AWP.ret ?_;(repeat (first | refine inB_r ?_ | refine andThen_r ?_));refine retQ_r ?_)
   exact Ends.cv [.sl O 0 L.flatten.length,iA 0] [cmdsA true L.flatten,iA 0] (.cons (.cell (.sl (p:=0) .here (by rw [List.length_map]))) (.cons (.cell .same) .nil))
theorem base_ok:WdOK baseWd:=(wdErr_iff _).1 (by decide)
abbrev kill0:Cmd:=⟨2,⟨0,0⟩,0,[]⟩
theorem kill0_run:runW baseWd [kill0,kill0] = (⟨[baseKind],[1],[]⟩,[],[true,false]):=by decide
set_option maxRecDepth 8000 in
theorem killed_ps:PS Tryz.prog 20 [] (bA true):=by
 have ha:=apply_ps baseWd [kill0,kill0] base_ok (by decide) (by decide) ⟨fun c hc=>(by simp at hc;subst hc;rfl),fun c hc=>(by simp at hc;subst hc;exact ⟨by decide,by decide⟩),fun c hc=>(by simp at hc;subst hc;decide)⟩
 rw [kill0_run] at ha
 have he:PS Tryz.prog 23 [intsA false [1],intsA false [1]] (bA true):=equalI_ps [1] [1] (by decide)
 refine Spec.of (nt:=27) (res:=[.tmp 0]) Tryz.func20 rfl (by kernel_rfl) rfl rfl rfl fun Sf=>?_
 (repeat refine WF ?_);refine AWP.region ?_;(repeat (first | refine WO ?_ | refine All.i fun X=>?_ | refine AllY.i fun Y=>?_));refine AOps.nil ?_;(repeat refine WN ?_)
 (repeat first | refine AOps.nil ?_ | refine WF ?_)
 (repeat refine WF ?_);refine AWP.region ?_;(repeat (first | (refine AOps.gN ?_;first | (refine AOps.g_callf ?_;first | refine AOps.c0 (h:=(base_ps ..)) (k:=?_) | refine AOps.c2 (h:=(ha ..)) (k:=?_)) | refine AOps.nilT 6 42 2 (.cons .same (.cons .same (.cons .same (.cons .same (.cons (.base .nil) .nil))))) ?_ | refine AOps.nilT 7 42 2 (.cons .same (.cons .same (.cons .same (.cons .same (.cons (.base .nil) .nil))))) ?_) | refine WO ?_ | refine All.i fun V=>?_ | refine AllY.i fun Y=>?_));refine AOps.nil ?_;(repeat refine WN ?_)
 (repeat first | refine AOps.nil ?_ | refine WF ?_)
 (repeat refine WF ?_);refine AWP.region ?_;(repeat (first | (refine AOps.gN ?_;first | (refine AOps.g_callf ?_;first | refine AOps.c2 (h:=(he ..)) (k:=?_))) | refine WO ?_ | refine All.i fun X=>?_ | refine AllY.i fun Y=>?_));refine AOps.nil ?_;(repeat refine WN ?_)
 (refine AWP.ret ?_;(repeat (first | refine inB_r ?_ | refine andThen_r ?_));refine retQ_r ?_);refine Ends.ps ?_
 rfl
end Go.Proofs.YtnlekapghebhlaaGreat
