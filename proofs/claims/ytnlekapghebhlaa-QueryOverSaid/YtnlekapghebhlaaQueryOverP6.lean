/-
  Part 6 of the texts under the law QueryOver: the layer of abstract values, walks and plain laws. Conditions: those that each theorem names.
-/
import Derived.Test.YtnlekapghebhlaaQueryOverP5
namespace Go.Proofs.Ytnlekapghebhlaa
set_option linter.unusedVariables false
set_option linter.unusedSimpArgs false
section
open Go.RowKit
theorem tComps_kinds2 {t:Tab} (h:TabOK t) (n:Int):(tComps t n).map (·.kind) = t.ks:=by
 have hl:=h.len
 refine List.ext_getElem (by simp [tComps];omega) fun i h1 h2=>?_
 rw [List.getElem_map,tComps_at (by simpa using h1) h2 (by omega)]
theorem contains_has (cs:List Comp) (k:Int):(cs.map (·.kind)).contains k = hasK cs k:=by
 unfold hasK
 induction cs with
 | nil=>rfl
 | cons c cs ih =>
  rw [List.map_cons,List.contains_cons,ih,List.any_cons]
  congr 1
  rw [Bool.eq_iff_iff]
  simp only [beq_iff_eq,decide_eq_true_eq]
  exact eq_comm
theorem match_skip {t:Tab} (h:TabOK t) (e:Ent) (n:Int) (wth wout:List Int):matchOf ⟨e,tComps t n⟩ wth wout = !skipT wth wout t.ks:=by
 unfold matchOf skipT
 dsimp only
 rw [← tComps_kinds2 h n,Bool.not_or]
 simp only [contains_has]
theorem items_fit {ts:List Tab} (h:∀ t ∈ ts,TabOK t) (wth wout:List Int):arItems (fitT wth wout ts) = (arItems ts).filter fun it=>matchOf it wth wout:=by
 induction ts with
 | nil=>rfl
 | cons t ts ih =>
  have ih:=ih fun u hu=>h u (by simp [hu])
  have e1:arItems (t :: ts) = tItems t ++ arItems ts:=List.flatMap_cons
  rw [e1,List.filter_append,← ih]
  have e2:∀ b:Bool,skipT wth wout t.ks = b → (tItems t).filter (fun it=>matchOf it wth wout) = if b then [] else tItems t:=fun b hb=>by
   have hm:∀ it ∈ tItems t,matchOf it wth wout = !b:=fun it hit=>by
    obtain ⟨p,_,rfl⟩:=List.mem_map.1 hit
    rw [match_skip (h t (by simp)),hb]
   cases b
   ·rw [if_neg (by simp),List.filter_eq_self]
    exact fun it hit=>by rw [hm it hit];rfl
   ·rw [if_pos rfl,List.filter_eq_nil_iff]
    exact fun it hit=>by rw [hm it hit];simp
  rw [e2 _ rfl]
  unfold fitT
  rw [List.filter_cons]
  cases skipT wth wout t.ks
  ·rw [if_pos (by rfl),if_neg (by simp)];exact List.flatMap_cons
  ·rw [if_neg (by simp),if_pos rfl];rfl
theorem allTo_map (l:List Item) (wth wout:List Int):∀ i,i ≤ l.length → (allTo l wth wout i).map (·.2) = (l.take i).filter fun it=>matchOf it wth wout:=by
 intro i
 induction i with
 | zero=>intro _;rfl
 | succ i ih =>
  intro hi
  have h:i < l.length:=hi
  rw [List.take_succ_eq_append_getElem h,List.filter_append]
  cases hm:matchOf l[i] wth wout
  ·rw [allTo_no h hm,ih (by omega)];simp [hm]
  ·rw [allTo_yes h hm,List.map_append,ih (by omega)];simp [hm]
theorem allOf_map (l:List Item) (wth wout:List Int):(allOf l wth wout).map (·.2) = l.filter fun it=>matchOf it wth wout:=by
 rw [allOf,allTo_map _ _ _ _ (Nat.le_refl _),List.take_length]
set_option maxRecDepth 8000 in
theorem queryOver_ps (l m o:List Int) (hl:l.length * 8 ≤ 140737488351232) (hm:m.length * 8 ≤ 140737488351232) (ho:o.length * 8 ≤ 140737488351232):PS Try.prog 5 [intsA false l,intsA false m,intsA false o] (bA true):=by
 have hwp:=world_ps l
 have hok:=genWorld_ok l
 obtain ⟨w,hw⟩:∃ w,genWorld l = w:=⟨_,rfl⟩
 rw [hw] at hwp hok
 clear hw
 have hgl:=hok.gl
 have hil:=hok.il
 have hL:=hok.wl
 have hof:=of_sp w hok
 have hcb:PS Try.prog 24 [wdA false baseWd,intsA false [0],.prim (.slice none 0 0)] (iA 1):=(count_ps baseWd [0] [] (by decide) (by decide) (by decide) (by decide)).arg
 have hmm:(m.map iA).length = m.length:=List.length_map _
 have hom:(o.map iA).length = o.length:=List.length_map _
 refine Spec.of (nt:=81) (res:=[.tmp 6]) Try.func5 rfl (by kernel_rfl) rfl rfl rfl fun Sf=>?_
 (repeat refine WF ?_);refine AWP.region ?_;(repeat (first | refine WO ?_ | refine All.i fun X=>?_ | refine AllY.i fun Y=>?_));refine AOps.nil ?_;(repeat refine WN ?_)
 (repeat first | refine AOps.nil ?_ | refine WF ?_)
 (repeat refine WF ?_);refine AWP.region ?_;(repeat (first | (refine AOps.gN ?_;first | (refine AOps.g_callf ?_;first | refine AOps.c1 (h:=(hwp ..)) (k:=?_))) | refine WO ?_ | refine All.i fun V=>?_ | refine AllY.i fun Y=>?_));refine AOps.nil ?_;(repeat refine WN ?_)
 (repeat first | refine AOps.nil ?_ | refine WF ?_)
 (repeat refine WF ?_);refine AWP.region ?_;(repeat (first | (refine AOps.gN ?_;first | (refine AOps.g_callf ?_;first | refine AOps.c0 (h:=(tabled_ps ..)) (k:=?_) | refine AOps.c0 (h:=(base_ps ..)) (k:=?_) | refine AOps.c3 (h:=(hcb ..)) (k:=?_))) | refine WO ?_ | refine All.i fun X=>?_ | refine AllY.i fun Y=>?_));refine AOps.nil ?_;(repeat refine WN ?_)
 refine AWP.cond_f rfl rfl ?_
 (repeat first | refine AOps.nil ?_ | refine WF ?_)
 (repeat refine WF ?_);refine AWP.region ?_;(repeat (first | refine WO ?_ | refine All.i fun X=>?_ | refine AllY.i fun Y=>?_));refine AOps.nil ?_;(repeat refine WN ?_)
 (repeat first | refine AOps.nil ?_ | refine WF ?_)
 (repeat refine WF ?_);refine AWP.region ?_;(repeat (first | refine WO ?_ | refine All.i fun X=>?_ | refine AllY.i fun Y=>?_));refine AOps.nil ?_;(repeat refine WN ?_)
 (repeat first | refine AOps.nil ?_ | refine WF ?_)
 refine AWP.adopt (d:=8) 3 1 rfl fun O=>?_
 refine AWP.lp3 (fun (i O:Nat) (u:List Int)=>⟨[(2,intsA false o),(6,bA false),(7,.ptr V 0 0),(9,.prim (.slice none 0 0)),(8,.sl O 0 u.length),(29,intsA false m),(30,iA (m.map iA).length),(31,iA i)],(O,.row 3 1 (u.map iA)) :: (V,.row 39 3 [wdA false w]) :: Sf⟩) (fun i _ u=>i ≤ m.length ∧ u = (m.take i).map fun x=>x % 4) (fun i _ _=>m.length - i) 0 O [] ⟨Nat.zero_le _,rfl⟩ ?_
 rintro i O u ⟨hi,hu⟩
 (repeat refine WF ?_);refine AWP.region ?_;(repeat (first | refine WO ?_ | refine All.i fun X=>?_ | refine AllY.i fun Y=>?_));refine AOps.nil ?_;(repeat refine WN ?_)
 (repeat first | refine AOps.nil ?_ | refine WF ?_)
 refine AWP.cond rfl (fun hb=>?_) (fun hb=>?_)
 ·have h:i < m.length:=by rw [decide_eq_true_eq,List.length_map] at hb;omega
  have hat:(m.map iA)[i]? = some (iA m[i]):=map_at _ h
  obtain ⟨x,hx⟩:∃ x,m[i] = x:=⟨_,rfl⟩
  rw [hx] at hat
  have hbl:=below_ps x 4 (by decide) (by decide)
  have hul:u.length = i:=by rw [hu,List.length_map,List.length_take];omega
  have hum:(u.map iA).length = u.length:=List.length_map _
  have hnx:u ++ [x % 4] = (m.take (i + 1)).map fun x=>x % 4:=by rw [List.take_succ_eq_append_getElem h,List.map_append,← hu,hx];rfl
  have hma:u.map iA ++ [iA (x % 4)] = (u ++ [x % 4]).map iA:=by rw [List.map_append];rfl
  have hml:u.length + [iA (x % 4)].length = (u ++ [x % 4]).length:=by rw [List.length_append];rfl
  (repeat first | refine AOps.nil ?_ | refine WF ?_)
  (repeat refine WF ?_);refine AWP.region ?_;(repeat (first | refine WO ?_ | refine All.i fun X=>?_ | refine AllY.i fun Y=>?_));refine AOps.nil ?_;(repeat refine WN ?_)
  (repeat first | refine AOps.nil ?_ | refine WF ?_)
  (repeat refine WF ?_);refine AWP.region ?_;(repeat (first | (refine AOps.gN ?_;first | (refine AOps.g_callf ?_;first | refine AOps.c2 (h:=(hbl ..)) (k:=?_)) | (refine AOps.g_lit ?_;refine AOps.goL (iA (x % 4)) ?_)) | refine WO ?_ | refine All.i fun X=>?_ | refine AllY.i fun Y=>?_));refine AOps.nil ?_;(repeat refine WN ?_)
  rw [hma,hml]
  (repeat first | refine AOps.nil ?_ | refine WF ?_)
  (repeat refine WF ?_);refine AWP.region ?_;(repeat (first | refine WO ?_ | refine All.i fun X=>?_ | refine AllY.i fun Y=>?_));refine AOps.nil ?_;(repeat refine WN ?_)
  exact lp_next3 (i + 1) Y (u ++ [x % 4]) ⟨h,hnx⟩ (by omega)
 have h:i = m.length:=by rw [decide_eq_false_iff_not,List.length_map] at hb;omega
 rw [h,List.take_length] at hu
 subst h
 obtain ⟨wth,hwth⟩:∃ q,q = u:=⟨_,rfl⟩
 rw [← hwth] at hu ⊢
 have hwl:wth.length = m.length:=by rw [hu,List.length_map]
 clear hwth hb hi
 (repeat first | refine AOps.nil ?_ | refine WF ?_)
 refine AWP.iceL 8 (wth.map iA) (frzs_same iA (fun _=>Frz.h) _) (hn:=by rw [List.length_map]) ?_
 (repeat refine WF ?_);refine AWP.region ?_;(repeat (first | refine WO ?_ | refine All.i fun X=>?_ | refine AllY.i fun Y=>?_));refine AOps.nil ?_;(repeat refine WN ?_)
 (repeat first | refine AOps.nil ?_ | refine WF ?_)
 refine AWP.adopt (d:=9) 3 1 rfl fun O=>?_
 refine AWP.lp3 (fun (i O:Nat) (u:List Int)=>⟨[(6,bA false),(7,.ptr V 0 0),(8,intsA false wth),(9,.sl O 0 u.length),(41,intsA false o),(42,iA (o.map iA).length),(43,iA i)],(O,.row 3 1 (u.map iA)) :: (V,.row 39 3 [wdA false w]) :: Sf⟩) (fun i _ u=>i ≤ o.length ∧ u = (o.take i).map fun x=>x % 4) (fun i _ _=>o.length - i) 0 O [] ⟨Nat.zero_le _,rfl⟩ ?_
 rintro i O u ⟨hi,hu⟩
 (repeat refine WF ?_);refine AWP.region ?_;(repeat (first | refine WO ?_ | refine All.i fun X=>?_ | refine AllY.i fun Y=>?_));refine AOps.nil ?_;(repeat refine WN ?_)
 (repeat first | refine AOps.nil ?_ | refine WF ?_)
 refine AWP.cond rfl (fun hb=>?_) (fun hb=>?_)
 ·have h:i < o.length:=by rw [decide_eq_true_eq,List.length_map] at hb;omega
  have hat:(o.map iA)[i]? = some (iA o[i]):=map_at _ h
  obtain ⟨x,hx⟩:∃ x,o[i] = x:=⟨_,rfl⟩
  rw [hx] at hat
  have hbl:=below_ps x 4 (by decide) (by decide)
  have hul:u.length = i:=by rw [hu,List.length_map,List.length_take];omega
  have hum:(u.map iA).length = u.length:=List.length_map _
  have hnx:u ++ [x % 4] = (o.take (i + 1)).map fun x=>x % 4:=by rw [List.take_succ_eq_append_getElem h,List.map_append,← hu,hx];rfl
  have hma:u.map iA ++ [iA (x % 4)] = (u ++ [x % 4]).map iA:=by rw [List.map_append];rfl
  have hml:u.length + [iA (x % 4)].length = (u ++ [x % 4]).length:=by rw [List.length_append];rfl
  (repeat first | refine AOps.nil ?_ | refine WF ?_)
  (repeat refine WF ?_);refine AWP.region ?_;(repeat (first | refine WO ?_ | refine All.i fun X=>?_ | refine AllY.i fun Y=>?_));refine AOps.nil ?_;(repeat refine WN ?_)
  (repeat first | refine AOps.nil ?_ | refine WF ?_)
  (repeat refine WF ?_);refine AWP.region ?_;(repeat (first | (refine AOps.gN ?_;first | (refine AOps.g_callf ?_;first | refine AOps.c2 (h:=(hbl ..)) (k:=?_)) | (refine AOps.g_lit ?_;refine AOps.goL (iA (x % 4)) ?_)) | refine WO ?_ | refine All.i fun X=>?_ | refine AllY.i fun Y=>?_));refine AOps.nil ?_;(repeat refine WN ?_)
  rw [hma,hml]
  (repeat first | refine AOps.nil ?_ | refine WF ?_)
  (repeat refine WF ?_);refine AWP.region ?_;(repeat (first | refine WO ?_ | refine All.i fun X=>?_ | refine AllY.i fun Y=>?_));refine AOps.nil ?_;(repeat refine WN ?_)
  exact lp_next3 (i + 1) Y (u ++ [x % 4]) ⟨h,hnx⟩ (by omega)
 have h:i = o.length:=by rw [decide_eq_false_iff_not,List.length_map] at hb;omega
 rw [h,List.take_length] at hu
 subst h
 obtain ⟨wout,hwout⟩:∃ q,q = u:=⟨_,rfl⟩
 rw [← hwout] at hu ⊢
 have hol:wout.length = o.length:=by rw [hu,List.length_map]
 clear hwout hb hi
 (repeat first | refine AOps.nil ?_ | refine WF ?_)
 refine AWP.iceL 9 (wout.map iA) (frzs_same iA (fun _=>Frz.h) _) (hn:=by rw [List.length_map]) ?_
 (repeat refine WF ?_);refine AWP.region ?_;(repeat (first | (refine AOps.gN ?_;first | refine AOps.p1 [_,_] (h:=hof) (k:=fun a ha=>?_)) | refine WO ?_ | refine All.i fun X=>?_ | refine AllY.i fun Y=>?_));refine AOps.nil ?_;(repeat refine WN ?_)
 obtain ⟨a1,a2,a3,a4,a5⟩:=ha
 (repeat first | refine AOps.nil ?_ | refine WF ?_)
 (repeat refine WF ?_);refine AWP.region ?_;(repeat (first | (refine AOps.gN ?_;first | refine AOps.go (h:=W.eqPtrN rfl rfl (by exact At.f) (by exact Nat.zero_lt_one)) (k:=?_)) | refine WO ?_ | refine All.i fun X=>?_ | refine AllY.i fun Y=>?_));refine AOps.nil ?_;(repeat refine WN ?_)
 refine AWP.cond_f rfl rfl ?_
 (repeat first | refine AOps.nil ?_ | refine WF ?_)
 have hit:∀ it ∈ w.items,it.comps.length ≤ 1099511627776 ∧ ∀ c ∈ it.comps,c.vals.length ≤ 1099511627776:=fun it hi=>hL.items.2 it hi
 have hall:=all_ps w wth wout (by omega) hit (by omega) (by omega)
 have hal:=allOf_map w.items wth wout
 have hAl:(allOf w.items wth wout).length ≤ w.items.length:=allTo_len _ _ _ _
 have hAm:∀ q ∈ allOf w.items wth wout,q.2 ∈ w.items:=fun q hq=>by
  have:q.2 ∈ (allOf w.items wth wout).map (·.2):=List.mem_map.2 ⟨q,hq,rfl⟩
  rw [hal] at this
  exact (List.mem_filter.1 this).1
 obtain ⟨al,hal2⟩:∃ al,allOf w.items wth wout = al:=⟨_,rfl⟩
 rw [hal2] at hall hal hAl hAm
 have hI:=all1_itr al (by omega) (fun q hq=>hit q.2 (hAm q hq))
 have hE0:al.map (fun q=>q.2.ent) = (w.items.filter fun it=>matchOf it wth wout).map (·.ent):=by rw [← hal,List.map_map];rfl
 have hE1:(entsL (fitT wth wout a.ts)).Perm (al.map fun q=>q.2.ent):=by
  rw [hE0,entsL_items,items_fit a1.tab]
  exact (a5.filter _).map _
 have hE2:(al.map fun q=>q.2.ent).Pairwise fun x y=>x.n < y.n:=by
  rw [hE0]
  exact List.pairwise_map.2 (hok.so.filter _)
 obtain ⟨E,hE⟩:∃ E,(al.map fun q=>q.2.ent) = E:=⟨_,rfl⟩
 have hElen:E.length = al.length:=by rw [← hE,List.length_map]
 rw [hE] at hE1 hE2
 have hov:=over_sp a a1 a2 wth wout (by omega) (by omega) E hE1 hE2
 have heq:=equalE_ps E E (by omega)
 rw [decide_eq_true rfl] at heq
 (repeat refine WF ?_);refine AWP.region ?_;(repeat (first | refine WO ?_ | refine All.i fun P=>?_ | refine AllY.i fun Y=>?_));refine AOps.nil ?_;(repeat refine WN ?_)
 (repeat first | refine AOps.nil ?_ | refine WF ?_)
 refine AWP.adoptIn (Y:=P) 52 2 .here (fun F=>.cons (.base .nil) .nil) fun F=>?_
 (repeat refine WF ?_);refine AWP.region ?_;(repeat (first | (refine AOps.gN ?_;first | (refine AOps.g_callf ?_;first | refine AOps.c3 (h:=(hall ..)) (k:=?_))) | refine WO ?_ | refine All.i fun X=>?_ | refine AllY.i fun Y=>?_));refine AOps.nil ?_;(repeat refine WN ?_)
 (repeat first | refine AOps.nil ?_ | refine WF ?_)
 refine AWP.rangeF (Sf:=(O,.used) :: (V,.row 39 3 [wdA false w]) :: (arS a ++ Sf)) hI (fun b:Nat × List Ent=>[(b.1,.row 52 2 (b.2.map entA)),(P,.row 49 1 [.sl b.1 0 b.2.length])]) (fun i b=>b.2 = E.take i) (F,[]) rfl ?_ ?_ rfl rfl rfl ?_ ?_
 ·rintro i vs ⟨K,is⟩ l F1 F2 hi hb
  dsimp only at hb
  have hn:i < al.length:=by
   have:=(List.getElem?_eq_some_iff.1 hi).1
   simpa using this
  obtain ⟨⟨qi,qt⟩,hq⟩:∃ q,al[i] = q:=⟨_,rfl⟩
  have hiv:[iA qi,itemA false qt] = vs:=by
   rw [List.getElem?_map,List.getElem?_eq_getElem hn,hq] at hi
   simpa using hi
  subst hiv
  have hEi:E[i]? = some qt.ent:=by rw [← hE,List.getElem?_map,List.getElem?_eq_getElem hn,hq];rfl
  have hnx:is ++ [qt.ent] = E.take (i + 1):=by rw [hb,List.take_add_one,hEi];rfl
  have hil2:is.length < al.length:=by rw [hb,List.length_take];omega
  have hrl:is.length = (is.map entA).length:=by rw [List.length_map]
  have hma:is.map entA ++ [entA qt.ent] = (is ++ [qt.ent]).map entA:=by rw [List.map_append];rfl
  have hml:is.length + [entA qt.ent].length = (is ++ [qt.ent]).length:=by rw [List.length_append];rfl
  (repeat first | refine AOps.nil ?_ | refine WF ?_)
  (repeat refine WF ?_);refine AWP.region ?_;(repeat (first | refine WO ?_ | refine All.i fun E9=>?_ | refine AllY.i fun Y=>?_));refine AOps.nil ?_;(repeat refine WN ?_)
  refine ⟨(E9,.row 56 3 [itemA false qt]) :: [(K,.row 52 2 (is.map entA)),(P,.row 49 1 [.sl K 0 is.length])],.refl _,?_⟩
  (repeat first | refine AOps.nil ?_ | refine WF ?_)
  (repeat refine WF ?_);refine AWP.region ?_;(repeat (first | (refine AOps.gN ?_;first | (refine AOps.g_lit ?_;refine AOps.goL (entA qt.ent) ?_)) | refine WO ?_ | refine All.i fun X=>?_ | refine AllY.i fun Y=>?_));refine AOps.nil ?_;(repeat refine WN ?_)
  rw [hma,hml]
  refine ⟨[(Y,.row 52 2 ((is ++ [qt.ent]).map entA)),(P,.row 49 1 [.sl Y 0 (is ++ [qt.ent]).length])],?_,(Y,is ++ [qt.ent]),hnx,rfl⟩
  first | exact .refl _ | exact .cons _ (.refl _) | exact .cons _ (.cons _ (.refl _)) | exact .cons₂ _ (.cons _ (.refl _)) | exact .cons₂ _ (.cons _ (.cons _ (.refl _))) | exact .cons _ (.cons₂ _ (.cons _ (.refl _)))
 ·rintro ⟨K,is⟩ hb
  dsimp only at hb
  rw [List.length_map,← hElen,List.take_length] at hb
  subst hb
  have hF:AV.frzs (((is.map entA).drop 0).take is.length) = is.map entA:=by
   rw [List.drop_zero,List.take_of_length_le (by rw [List.length_map];omega)]
   exact Frzs.h
  (repeat first | refine AOps.nil ?_ | refine WF ?_)
  refine AWP.iceIn (X:=K) (Y:=P) .here (.next .here) rfl (.cons (.base (.sl (by rw [List.length_map];omega))) .nil) ?_
  rw [hF]
  (repeat refine WF ?_)
  refine AWP.region_runT 4 (by kernel_rfl) (by kernel_rfl) ?_
  refine RGoT.go ?_
  refine RGoT.go ?_
  refine RGoT.go ?_
  refine RGoT.callK (xs:=[(.tmp 75,.ptr a.A 0 0),(.tmp 76,intsA false wth),(.tmp 77,intsA false wout)]) (L:=[_,_,_,_]) (R:=Sf) hov (.fz (v:=entsA is)) rfl (Nat.le_refl 4) (.cons rfl (.cons rfl (.cons rfl .nil))) rfl rfl ?_
  refine RGoT.go ?_
  refine RGoT.go (h:=W.call2 rfl rfl heq rfl) ?_
  refine RGoT.go ?_
  refine RGoT.nil (by kernel_rfl) ?_
  (refine AWP.ret ?_;(repeat (first | refine inB_r ?_ | refine andThen_r ?_));refine retQ_r ?_)
  refine Ends.ps rfl (hS:=by repeat (first | exact List.sublist_append_right _ _ | apply List.Sublist.cons))
 ·intro vs hvs
  obtain ⟨q,_,rfl⟩:=List.mem_map.1 hvs
  rfl
 ·exact List.Sublist.refl _
theorem queryOver_calls (z0:List Int) (A0:Option Addr) (n0 cap0:Nat) (z1:List Int) (A1:Option Addr) (n1 cap1:Nat) (z2:List Int) (A2:Option Addr) (n2 cap2:Nat) (w:World) (h0:Ints w (Lt w) (.slice A0 n0 cap0) z0) (hlen0:z0.length * 8 ≤ 140737488351232) (h1:Ints w (Lt w) (.slice A1 n1 cap1) z1) (hlen1:z1.length * 8 ≤ 140737488351232) (h2:Ints w (Lt w) (.slice A2 n2 cap2) z2) (hlen2:z2.length * 8 ≤ 140737488351232) :
  Calls Try.prog 5 #[.slice A0 n0 cap0,.slice A1 n1 cap1,.slice A2 n2 cap2] w fun e w'=>e = .returned (.bool true) ∧ Below w.heap.size w w' :=
 (queryOver_ps z0 z1 z2 hlen0 hlen1 hlen2).calls_bool (vts_ints h0 (vts_ints h1 (vts_ints h2 (vts_nil))))
end
end Go.Proofs.Ytnlekapghebhlaa
