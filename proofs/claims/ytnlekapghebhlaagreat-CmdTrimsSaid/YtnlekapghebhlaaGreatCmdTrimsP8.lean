/-
  Part 8 of the texts under the law CmdTrims: the layer of abstract values, walks and plain laws. Conditions: those that each theorem names.
-/
import Derived.Below
import Derived.Test.YtnlekapghebhlaaGreatCmdTrimsP7
namespace Go.Proofs.YtnlekapghebhlaaGreat
set_option linter.unusedVariables false
set_option linter.unusedSimpArgs false
def pickP (w:Wd) (n:Int):Ent × Bool:=match w.items[(n % (w.items.length:Int)).toNat]? with
 | some it=>(it.ent,true)
 | none=>(⟨0,0⟩,false)
theorem pickP_ps (w:Wd) (n:Int) (hl:w.items.length ≤ 4611686018427387904):PS Tryz.prog 12 [wdA false w,iA n] (.tup [entA (pickP w n).1,bA (pickP w n).2]):=by
 unfold pickP
 cases h:w.items with
 | nil=>exact pick_no w n h
 | cons it l =>
  obtain ⟨i,hi,hil⟩:=idx_of n (m:=(it :: l).length) (by simp)
  have h2:w.items[i]? = some (it :: l)[i]:=by rw [h];exact List.getElem?_eq_getElem hil
  have:=pick_yes w n i (it :: l)[i] (by rw [h];exact hi) h2 hl
  rw [hi,Int.toNat_natCast,List.getElem?_eq_getElem hil]
  exact this
def rawE (w:Wd) (n a:Int):Ent:=if (pickP w n).2 = true ∧ a.tmod 5 ≠ 0 then (pickP w n).1 else ⟨n % 12,IntKind.i64.wrap (n.tdiv 16) % 3⟩
def rawC (ks:List Kind) (b:Int) (l:List Int):Comp:=match ks[(b % (ks.length:Int)).toNat]? with
 | some k=>⟨b % (ks.length:Int),compVals k.fields.length b l⟩
 | none=>⟨0,[]⟩
def cmdAt (w:Wd) (l:List Int) (i:Nat):Cmd:=⟨l.getD (i + 1) 0 % 4,rawE w (l.getD i 0) (l.getD (i + 1) 0),l.getD (i + 2) 0 % (w.kinds.length:Int),[rawC w.kinds (l.getD (i + 2) 0) (l.drop i)]⟩
def cmdsN (l:List Int):Nat:=min 30 (l.length / 3)
def cmdsOf (w:Wd) (l:List Int):List Cmd:=(List.range (cmdsN l)).map fun j=>cmdAt w l (3 * j)
theorem cmdsOf_len (w:Wd) (l:List Int):(cmdsOf w l).length ≤ 30:=by
 unfold cmdsOf cmdsN
 rw [List.length_map,List.length_range]
 omega
theorem cmdAt_ok {w:Wd} (hw:WdOK w) (h0:0 < w.kinds.length) (l:List Int) (i:Nat):(cmdOne w.kinds (cmdAt w l i)).2 = 0 ∧ I64 (cmdAt w l i).ent.n ∧ (cmdAt w l i).comps.length = 1 ∧ ∀ d ∈ (cmdAt w l i).comps,d.vals.length ≤ 8:=by
 obtain ⟨c,hc⟩:∃ c,cmdAt w l i = c:=⟨_,rfl⟩
 obtain ⟨k,hk,hkl⟩:=idx_of (l.getD (i + 2) 0) h0
 have hka:w.kinds[k]? = some w.kinds[k]:=List.getElem?_eq_getElem hkl
 have hrc:rawC w.kinds (l.getD (i + 2) 0) (l.drop i) = ⟨(k:Nat),compVals (w.kinds[k]).fields.length (l.getD (i + 2) 0) (l.drop i)⟩:=by
  unfold rawC
  rw [hk,Int.toNat_natCast,hka]
 have hfo:=comp_fits hw.ks hkl (l.getD (i + 2) 0) (l.drop i)
 have hft:=wFit_one hw.ks hfo
 have hen:I64 (rawE w (l.getD i 0) (l.getD (i + 1) 0)).n:=by
  unfold rawE
  split
  ·unfold pickP
   split
   ·rename_i it hit
    have:=hw.it it (List.mem_of_getElem? hit)
    have:=hw.gl
    constructor <;> dsimp only <;> omega
   ·constructor <;> decide
  ·constructor <;> dsimp only <;> omega
 have h8:=(oneErr_zero ((checkErr_one hw.ks).2 _ (List.getElem_mem hkl))).2.1
 refine ⟨?_,hen,rfl,fun d hd=>?_⟩
 ·have h4:0 ≤ l.getD (i + 1) 0 % 4 ∧ l.getD (i + 1) 0 % 4 < 4:=by omega
  unfold cmdOne cmdAt
  dsimp only
  rw [hrc,hft]
  split
  ·rfl
  ·split
   ·rw [hk,if_neg (by omega)]
   ·split
    ·rfl
    ·rw [if_pos (by omega)]
 ·unfold cmdAt at hd
  dsimp only at hd
  rw [hrc,List.mem_singleton] at hd
  subst hd
  show (compVals _ _ _).length ≤ 8
  rw [compVals_len]
  exact h8
theorem cmdsOf_ok {w:Wd} (hw:WdOK w) (h0:0 < w.kinds.length) (l:List Int):CmdsL w.kinds (cmdsOf w l) ∧ ∀ c ∈ cmdsOf w l,CsL c.comps:=by
 have h:∀ c ∈ cmdsOf w l,∃ i,cmdAt w l i = c:=fun c hc=>by
  obtain ⟨j,_,rfl⟩:=List.mem_map.1 hc
  exact ⟨_,rfl⟩
 refine ⟨⟨fun c hc=>?_,fun c hc=>?_,fun c hc=>?_⟩,fun c hc=>?_⟩ <;> obtain ⟨i,rfl⟩:=h c hc <;> obtain ⟨h1,h2,h3,h4⟩:=cmdAt_ok hw h0 l i
 ·exact h1
 ·exact h2
 ·omega
 ·exact ⟨by omega,fun d hd=>by have:=h4 d hd;omega⟩
set_option maxRecDepth 8000 in
theorem cmds_ps (w:Wd) (l:List Int) (hw:WdOK w) (h0:0 < w.kinds.length) (hl:l.length * 8 ≤ 140737488351232):PS Tryz.prog 24 [wdA false w,intsA false l] (cmdsA true (cmdsOf w l)):=by
 have hlm:(l.map iA).length = l.length:=List.length_map _
 have hkm:(w.kinds.map (kindA false)).length = w.kinds.length:=List.length_map _
 have hil:=hw.il
 have hgl:=hw.gl
 have hk16:=(checkErr_one hw.ks).1
 refine Spec.of (nt:=85) (res:=[.tmp 4]) Tryz.func24 rfl (by kernel_rfl) rfl rfl rfl fun Sf=>?_
 (repeat refine WF ?_);refine AWP.region ?_;(repeat (first | (refine AOps.gN ?_;first | (refine AOps.g_box ?_;refine AOps.goB ?_)) | refine WO ?_ | refine All.i fun X=>?_ | refine AllY.i fun Y=>?_));refine AOps.nil ?_;(repeat refine WN ?_)
 (repeat first | refine AOps.nil ?_ | refine WF ?_)
 (repeat refine WF ?_);refine AWP.region ?_;(repeat (first | refine WO ?_ | refine All.i fun X=>?_ | refine AllY.i fun Y=>?_));refine AOps.nil ?_;(repeat refine WN ?_)
 (repeat first | refine AOps.nil ?_ | refine WF ?_)
 (repeat refine WF ?_);refine AWP.region ?_;(repeat (first | refine WO ?_ | refine All.i fun X=>?_ | refine AllY.i fun Y=>?_));refine AOps.nil ?_;(repeat refine WN ?_)
 (repeat first | refine AOps.nil ?_ | refine WF ?_)
 refine AWP.adopt (d:=5) 57 5 rfl fun O=>?_
 refine AWP.lp2 (fun (j O:Nat)=>⟨[(1,intsA false l),(2,.fp (wdA false w).cells),(5,.sl O 0 j),(6,iA (3 * j:Nat))],(O,.row 57 5 (((List.range j).map fun j=>cmdAt w l (3 * j)).map cmdA)) :: Sf⟩) (fun j _=>j ≤ cmdsN l) (fun j _=>cmdsN l - j) 0 O (Nat.zero_le _) ?_
 rintro j O hj
 have hj30:j ≤ 30:=by unfold cmdsN at hj;omega
 have hrl:j = (((List.range j).map fun j=>cmdAt w l (3 * j)).map cmdA).length:=by rw [List.length_map,List.length_map,List.length_range]
 by_cases hjk:j < cmdsN l
 ·have h1:3 * j + 2 < l.length:=by unfold cmdsN at hjk;omega
  have h2:3 * j < 90:=by unfold cmdsN at hjk;omega
  have hd1:decide (((3 * j:Nat):Int) + 2 < ((l.map iA).length:Nat)) = true:=decide_eq_true (by omega)
  have hd2:decide (((3 * j:Nat):Int) < 90) = true:=decide_eq_true (by omega)
  (repeat refine WF ?_);refine AWP.region ?_;(repeat (first | (refine AOps.gN ?_;first | refine AOps.go (h:=W.addE (((3 * j:Nat):Int) + 2) (by omega) (by omega) rfl rfl) (k:=?_)) | refine WO ?_ | refine All.i fun X=>?_ | refine AllY.i fun Y=>?_));refine AOps.nil ?_;(repeat refine WN ?_)
  refine AWP.cond_t rfl hd2 ?_
  obtain ⟨n,hn⟩:∃ n,l.getD (3 * j) 0 = n:=⟨_,rfl⟩
  obtain ⟨a,ha⟩:∃ n,l.getD (3 * j + 1) 0 = n:=⟨_,rfl⟩
  obtain ⟨b,hb⟩:∃ n,l.getD (3 * j + 2) 0 = n:=⟨_,rfl⟩
  have hgt:∀ i (h:i < l.length) v,l.getD i 0 = v → (l.map iA)[i]? = some (iA v):=fun i h v e=>by
   rw [List.getElem?_map,List.getElem?_eq_getElem h,← e,List.getD_eq_getElem?_getD,List.getElem?_eq_getElem h];rfl
  have hat0:=hgt _ (by omega) _ hn
  have hat1:=hgt _ (by omega) _ ha
  have hat2:=hgt _ (by omega) _ hb
  have hb12:=below_ps n 12 (by decide) (by decide)
  have hb3:=below_ps (IntKind.i64.wrap (n.tdiv 16)) 3 (by decide) (by decide)
  have hb4:=below_ps a 4 (by decide) (by decide)
  have hbk:=below_ps b ((w.kinds.map (kindA false)).length:Nat) (by omega) (by omega)
  have hpk:=pickP_ps w n (by omega)
  obtain ⟨⟨pe,pb⟩,hpe⟩:∃ q,pickP w n = q:=⟨_,rfl⟩
  rw [hpe] at hpk
  dsimp only at hpk
  (repeat first | refine AOps.nil ?_ | refine WF ?_)
  (repeat refine WF ?_);refine AWP.region ?_;(repeat (first | (refine AOps.gN ?_;first | refine AOps.go (h:=W.idxL rfl rfl rfl hat0) (k:=?_)) | refine WO ?_ | refine All.i fun X=>?_ | refine AllY.i fun Y=>?_));refine AOps.nil ?_;(repeat refine WN ?_)
  (repeat first | refine AOps.nil ?_ | refine WF ?_)
  (repeat refine WF ?_);refine AWP.region ?_;(repeat (first | (refine AOps.gN ?_;first | (refine AOps.g_callf ?_;first | refine AOps.c2 (h:=(hb12 ..)) (k:=?_) | refine AOps.c2 (h:=(hb3 ..)) (k:=?_)) | refine AOps.go (h:=W.quoW rfl rfl (by decide)) (k:=?_)) | refine WO ?_ | refine All.i fun E=>?_ | refine AllY.i fun Y=>?_));refine AOps.nil ?_;(repeat refine WN ?_)
  (repeat first | refine AOps.nil ?_ | refine WF ?_)
  (repeat refine WF ?_);refine AWP.region ?_;(repeat (first | (refine AOps.gN ?_;first | (refine AOps.g_callf ?_;first | refine AOps.c2 (h:=(hpk ..)) (k:=?_))) | refine WO ?_ | refine All.i fun X=>?_ | refine AllY.i fun Y=>?_));refine AOps.nil ?_;(repeat refine WN ?_)
  (repeat first | refine AOps.nil ?_ | refine WF ?_)
  (repeat refine WF ?_);refine AWP.region ?_;(repeat (first | (refine AOps.gQ ?_;first | refine AOps.goQ1 (h:=W.addE (((3 * j:Nat):Int) + 1) (by omega) (by omega) .q1 .q1) (k:=?_) | refine AOps.goQ1 (h:=W.idxL (a:=3 * j + 1) .q1 .q1 (by omega) hat1) (k:=?_) | refine AOps.goQ1 (h:=W.rem .q1 .q1 (by decide)) (k:=?_)) | refine WO ?_ | refine All.i fun X=>?_ | refine AllY.i fun Y=>?_));refine AOps.nil ?_;(repeat refine WN ?_)
  have hre:rawE w n a = if pb = true ∧ a.tmod 5 ≠ 0 then pe else ⟨n % 12,IntKind.i64.wrap (n.tdiv 16) % 3⟩:=by unfold rawE;rw [hpe]
  refine AWP.joinS (fun e:Ent=>e = rawE w n a) (fun e=>⟨[(1,intsA false l),(2,.fp (wdA false w).cells),(5,.sl O 0 j),(6,iA (3 * j:Nat)),(8,.ptr E 0 0)],(E,.row 32 2 [entA e]) :: (O,.row 57 5 (((List.range j).map fun j=>cmdAt w l (3 * j)).map cmdA)) :: Sf⟩) ?_ ?_
  ·refine AWP.cond rfl (fun hc=>?_) (fun hc=>?_)
   ·rw [Bool.and_eq_true,decide_eq_true_eq] at hc
    rw [if_pos hc] at hre
    (repeat first | refine AOps.nil ?_ | refine WF ?_)
    (repeat refine WF ?_);refine AWP.region ?_;(repeat (first | refine WO ?_ | refine All.i fun X=>?_ | refine AllY.i fun Y=>?_));refine AOps.nil ?_;(repeat refine WN ?_)
    exact jn pe hre.symm
   ·have hc:¬ (pb = true ∧ a.tmod 5 ≠ 0):=fun e=>by rw [e.1,decide_eq_true e.2] at hc;cases hc
    rw [if_neg hc] at hre
    (repeat first | refine AOps.nil ?_ | refine WF ?_)
    exact jn _ hre.symm
  rintro e rfl
  clear hre
  obtain ⟨⟨en,eg⟩,he⟩:∃ e,rawE w n a = e:=⟨_,rfl⟩
  rw [he]
  (repeat first | refine AOps.nil ?_ | refine WF ?_)
  refine AWP.rs fun Z=>?_
  (repeat refine WF ?_);refine AWP.region_run (by kernel_rfl) (by kernel_rfl) ?_;(repeat (first | (refine RGo.gN ?_;first | (refine RGo.g_callf ?_;first | refine RGo.c2 (h:=(hb4 ..)) (k:=?_) | refine RGo.c2 (h:=(hbk ..)) (k:=?_)) | refine RGo.go (h:=W.addE (((3 * j:Nat):Int) + 1) (by omega) (by omega) rfl rfl) (k:=?_) | refine RGo.go (h:=W.addE (((3 * j:Nat):Int) + 2) (by omega) (by omega) rfl rfl) (k:=?_) | refine RGo.go (h:=W.idxL (a:=3 * j + 1) rfl rfl (by omega) hat1) (k:=?_) | refine RGo.go (h:=W.idxL (a:=3 * j + 2) rfl rfl (by omega) hat2) (k:=?_)) | (refine RGo.gQ ?_;first | (refine RGo.g_callf ?_;first | refine RGo.c2 (h:=(hb4 ..)) (k:=?_) | refine RGo.c2 (h:=(hbk ..)) (k:=?_)) | refine RGo.go (h:=W.addE (((3 * j:Nat):Int) + 1) (by omega) (by omega) rfl rfl) (k:=?_) | refine RGo.go (h:=W.addE (((3 * j:Nat):Int) + 2) (by omega) (by omega) rfl rfl) (k:=?_) | refine RGo.go (h:=W.idxL (a:=3 * j + 1) rfl rfl (by omega) hat1) (k:=?_) | refine RGo.go (h:=W.idxL (a:=3 * j + 2) rfl rfl (by omega) hat2) (k:=?_)) | refine RK ?_ | refine RGo.nil (by kernel_rfl) ?_))
  obtain ⟨k,hk,hkl⟩:=idx_of b h0
  have hka:w.kinds[k]? = some w.kinds[k]:=List.getElem?_eq_getElem hkl
  have h8:=(oneErr_zero ((checkErr_one hw.ks).2 _ (List.getElem_mem hkl))).2.1
  have hcp:=comp_ps w.kinds b (l.drop (3 * j)) k hkl hk h8 (by omega)
  have hrc:rawC w.kinds b (l.drop (3 * j)) = ⟨(k:Nat),compVals (w.kinds[k]).fields.length b (l.drop (3 * j))⟩:=by
   unfold rawC
   rw [hk,Int.toNat_natCast,hka]
  rw [← hrc] at hcp
  have hdr:intsA false (l.drop (3 * j)) = .lst false 3 1 ((l.map iA).drop (3 * j)):=by rw [intsA,List.map_drop]
  rw [hdr] at hcp
  have hca:cmdAt w l (3 * j) = ⟨a % 4,⟨en,eg⟩,b % ((w.kinds.map (kindA false)).length:Nat),[rawC w.kinds b (l.drop (3 * j))]⟩:=by
   unfold cmdAt
   rw [hn,ha,hb,he,hkm]
  obtain ⟨⟨ck,cv⟩,hc⟩:∃ c,rawC w.kinds b (l.drop (3 * j)) = c:=⟨_,rfl⟩
  rw [hc] at hca hcp
  (repeat first | refine AOps.nil ?_ | refine WF ?_)
  (repeat refine WF ?_);refine AWP.region_run (by kernel_rfl) (by kernel_rfl) ?_;(repeat (first | (refine RGo.gN ?_;first | (refine RGo.g_callf ?_;first | refine RGo.c3 (h:=(hcp ..)) (k:=?_)) | refine RGo.go (h:=W.addE (((3 * j:Nat):Int) + 2) (by omega) (by omega) rfl rfl) (k:=?_) | refine RGo.go (h:=W.idxL (a:=3 * j + 2) rfl rfl (by omega) hat2) (k:=?_) | refine RGo.go (h:=W.loL (a:=3 * j) rfl rfl rfl (by omega)) (k:=?_) | refine RGo.go (v:=.lst false 42 2 [compA false ⟨ck,cv⟩]) (h:=W.litF1 (v0:=compA false ⟨ck,cv⟩) rfl rfl (.inl rfl) (by decide) (by decide) rfl) (k:=?_)) | (refine RGo.gQ ?_;first | (refine RGo.g_callf ?_;first | refine RGo.c3 (h:=(hcp ..)) (k:=?_)) | refine RGo.go (h:=W.addE (((3 * j:Nat):Int) + 2) (by omega) (by omega) rfl rfl) (k:=?_) | refine RGo.go (h:=W.idxL (a:=3 * j + 2) rfl rfl (by omega) hat2) (k:=?_) | refine RGo.go (h:=W.loL (a:=3 * j) rfl rfl rfl (by omega)) (k:=?_) | refine RGo.go (v:=.lst false 42 2 [compA false ⟨ck,cv⟩]) (h:=W.litF1 (v0:=compA false ⟨ck,cv⟩) rfl rfl (.inl rfl) (by decide) (by decide) rfl) (k:=?_)) | refine RK ?_ | refine RGo.nil (by kernel_rfl) ?_))
  (repeat first | refine AOps.nil ?_ | refine WF ?_)
  have hnx:(((List.range j).map fun j=>cmdAt w l (3 * j)).map cmdA) ++ [cmdA (cmdAt w l (3 * j))] = ((List.range (j + 1)).map fun j=>cmdAt w l (3 * j)).map cmdA:=by rw [List.range_succ,List.map_append,List.map_append];rfl
  rw [hca] at hnx
  obtain ⟨M,hM⟩:∃ M,(((List.range j).map fun j=>cmdAt w l (3 * j)).map cmdA) = M:=⟨_,rfl⟩
  rw [hM] at hrl hnx ⊢
  have hb1:M.length + 1 ≤ 1099511627776:=by omega
  (repeat refine WF ?_);refine AWP.region ?_;(repeat (first | (refine AOps.gN ?_;first | (refine AOps.g_lit ?_;refine AOps.goL (cmdA ⟨a % 4,⟨en,eg⟩,b % ((w.kinds.map (kindA false)).length:Nat),[⟨ck,cv⟩]⟩) ?_)) | refine WO ?_ | refine All.i fun X=>?_ | refine AllY.i fun Y=>?_));refine AOps.nil ?_;(repeat refine WN ?_)
  dsimp only [setAll,List.set_cons_zero,List.set_cons_succ,List.cons_append,List.nil_append]
  rw [hnx]
  have hj1:j + [cmdA ⟨a % 4,⟨en,eg⟩,b % ((w.kinds.map (kindA false)).length:Nat),[⟨ck,cv⟩]⟩].length = j + 1:=rfl
  rw [hj1]
  (repeat first | refine AOps.nil ?_ | refine WF ?_)
  (repeat refine WF ?_);refine AWP.region ?_;(repeat (first | (refine AOps.gN ?_;first | refine AOps.go (h:=W.addE (((3 * j:Nat):Int) + 3) (by omega) (by omega) rfl rfl) (k:=?_)) | refine WO ?_ | refine All.i fun X=>?_ | refine AllY.i fun Y=>?_));refine AOps.nil ?_;(repeat refine WN ?_)
  rw [show (((3 * j:Nat):Int) + 3) = ((3 * (j + 1):Nat):Int) by omega]
  exact lp_next2 (j + 1) Y hjk (by omega)
 ·have hjk:j = cmdsN l:=by omega
  have hM:((List.range j).map fun j=>cmdAt w l (3 * j)).map cmdA = (cmdsOf w l).map cmdA:=by rw [hjk];rfl
  rw [hM] at hrl ⊢
  cases hd1:decide (((3 * j:Nat):Int) + 2 < ((l.map iA).length:Nat)) with
  | false =>
   (repeat refine WF ?_);refine AWP.region ?_;(repeat (first | (refine AOps.gN ?_;first | refine AOps.go (h:=W.addE (((3 * j:Nat):Int) + 2) (by omega) (by omega) rfl rfl) (k:=?_)) | (refine AOps.gQ ?_;first | refine AOps.goNU ?_ | refine AOps.goNV ?_) | refine WO ?_ | refine All.i fun X=>?_ | refine AllY.i fun Y=>?_));refine AOps.nil ?_;(repeat refine WN ?_)
   refine AWP.cond_f rfl rfl ?_
   (repeat first | refine AOps.nil ?_ | refine WF ?_)
   (repeat refine WF ?_);refine AWP.region ?_;(repeat (first | refine WO ?_ | refine All.i fun X=>?_ | refine AllY.i fun Y=>?_));refine AOps.nil ?_;(repeat refine WN ?_)
   (refine AWP.ret ?_;(repeat (first | refine inB_r ?_ | refine andThen_r ?_));refine retQ_r ?_)
   exact Ends.cv [.sl O 0 j] [cmdsA true (cmdsOf w l)] (.cons (.cell (.sl (p:=0) .here hrl)) .nil)
  | true =>
   have hd1':=of_decide_eq_true hd1
   have hd2:decide (((3 * j:Nat):Int) < 90) = false:=decide_eq_false (by unfold cmdsN at hjk;omega)
   (repeat refine WF ?_);refine AWP.region ?_;(repeat (first | (refine AOps.gN ?_;first | refine AOps.go (h:=W.addE (((3 * j:Nat):Int) + 2) (by omega) (by omega) rfl rfl) (k:=?_)) | refine WO ?_ | refine All.i fun X=>?_ | refine AllY.i fun Y=>?_));refine AOps.nil ?_;(repeat refine WN ?_)
   refine AWP.cond_f rfl hd2 ?_
   (repeat first | refine AOps.nil ?_ | refine WF ?_)
   (repeat refine WF ?_);refine AWP.region ?_;(repeat (first | refine WO ?_ | refine All.i fun X=>?_ | refine AllY.i fun Y=>?_));refine AOps.nil ?_;(repeat refine WN ?_)
   (refine AWP.ret ?_;(repeat (first | refine inB_r ?_ | refine andThen_r ?_));refine retQ_r ?_)
   exact Ends.cv [.sl O 0 j] [cmdsA true (cmdsOf w l)] (.cons (.cell (.sl (p:=0) .here hrl)) .nil)
theorem base_ok:WdOK baseWd:=(wdErr_iff _).1 (by decide)
abbrev kill0:Cmd:=⟨2,⟨0,0⟩,0,[]⟩
theorem kill0_run:runW baseWd [kill0,kill0] = (⟨[baseKind],[1],[]⟩,[],[true,false]):=by decide
set_option maxRecDepth 8000 in
theorem killed_ps:PS Tryz.prog 20 [] (bA true):=by
 have ha:=apply_ps baseWd [kill0,kill0] base_ok (by decide) (by decide) ⟨fun c hc=>(by simp at hc;subst hc;rfl),fun c hc=>(by simp at hc;subst hc;exact ⟨by decide,by decide⟩),fun c hc=>(by simp at hc;subst hc;decide)⟩
 rw [kill0_run] at ha
 have he:PS Tryz.prog 23 [intsA false [1],intsA false [1]] (bA true):=equalI_ps [1] [1] (by decide)
 refine Spec.of (nt:=27) (res:=[.tmp 0]) Tryz.func20 rfl (by kernel_rfl) rfl rfl rfl fun Sf=>?_
 (repeat refine WF ?_);refine AWP.region ?_;(repeat (first | refine WO ?_ | refine All.i fun X=>?_ | refine AllY.i fun Y=>?_));refine AOps.nil ?_;(repeat refine WN ?_)
 (repeat first | refine AOps.nil ?_ | refine WF ?_)
 (repeat refine WF ?_);refine AWP.region ?_;(repeat (first | (refine AOps.gN ?_;first | (refine AOps.g_callf ?_;first | refine AOps.c0 (h:=(base_ps ..)) (k:=?_) | refine AOps.c2 (h:=(ha ..)) (k:=?_)) | refine AOps.nilT 6 42 2 (.cons .same (.cons .same (.cons .same (.cons .same (.cons (.base .nil) .nil))))) ?_ | refine AOps.nilT 7 42 2 (.cons .same (.cons .same (.cons .same (.cons .same (.cons (.base .nil) .nil))))) ?_) | refine WO ?_ | refine All.i fun V=>?_ | refine AllY.i fun Y=>?_));refine AOps.nil ?_;(repeat refine WN ?_)
 (repeat first | refine AOps.nil ?_ | refine WF ?_)
 (repeat refine WF ?_);refine AWP.region ?_;(repeat (first | (refine AOps.gN ?_;first | (refine AOps.g_callf ?_;first | refine AOps.c2 (h:=(he ..)) (k:=?_))) | refine WO ?_ | refine All.i fun X=>?_ | refine AllY.i fun Y=>?_));refine AOps.nil ?_;(repeat refine WN ?_)
 (refine AWP.ret ?_;(repeat (first | refine inB_r ?_ | refine andThen_r ?_));refine retQ_r ?_);refine Ends.ps ?_
 rfl
theorem equalFuncK_ps (a b:List Kind) (f:FuncId) (cap:List AV) (p:Kind → Kind → Bool) (hs:st1s cap = true) (hl:a.length ≤ 4611686018427387904) (hf:∀ x ∈ a,∀ y ∈ b,PS Tryz.prog f ((kindA false) x :: (kindA false) y :: cap) (bA (p x y))) :
  PS Tryz.prog 99 [.lst false 83 2 (a.map (kindA false)),.lst false 83 2 (b.map (kindA false)),.fn f cap] (bA (eqF p a b)):=by
 refine Spec.of (nt:=32) (res:=[.tmp 6]) Tryz.func99 rfl (by kernel_rfl) rfl rfl rfl fun Sf=>?_
 (repeat (first | refine WK ?_ | refine All.i fun X=>?_ | refine AllY.i fun Y=>?_))
 refine AWP.cond rfl (fun hb=>?_) (fun hb=>?_)
 ·have hb:a.length ≠ b.length:=by simp at hb;omega
  (repeat (first | refine WK ?_ | refine All.i fun X=>?_ | refine AllY.i fun Y=>?_))
  (refine AWP.ret ?_;(repeat (first | refine inB_r ?_ | refine andThen_r ?_));refine retQ_r ?_);refine Ends.ps ?_
  rw [eqF_len hb]
 ·have hb:a.length = b.length:=by simp at hb;omega
  (repeat (first | refine WK ?_ | refine All.i fun X=>?_ | refine AllY.i fun Y=>?_))
  refine AWP.lp (fun i:Nat=>⟨[(0,.lst false 83 2 (a.map (kindA false))),(1,.lst false 83 2 (b.map (kindA false))),(2,.fn f cap),(15,.lst false 83 2 (a.map (kindA false))),(16,iA (a.map (kindA false)).length),(17,iA i)],Sf⟩) (fun i=>i ≤ a.length ∧ ∀ j (h:j < a.length),j < i → p a[j] (b[j]'(by omega)) = true) (fun i=>a.length - i) 0 ⟨Nat.zero_le _,fun j h hj=>absurd hj (by omega)⟩ ?_
  rintro i ⟨hi,he⟩
  (repeat (first | refine WK ?_ | refine All.i fun X=>?_ | refine AllY.i fun Y=>?_))
  refine AWP.cond rfl (fun hc=>?_) (fun hc=>?_)
  ·have h:i < a.length:=by simpa using hc
   have h':i < b.length:=by omega
   (repeat (first | (refine AOps.gN ?_;first | (refine AOps.g_callv ?_;first | refine AOps.k2 (h:=(hf _ (List.getElem_mem h) _ (List.getElem_mem h'))) (k:=?_))) | refine WK ?_ | refine All.i fun X=>?_ | refine AllY.i fun Y=>?_))
   refine AWP.cond rfl (fun hd=>?_) (fun hd=>?_)
   ·have hd:p a[i] b[i] = false:=by simpa using hd
    (repeat (first | refine WK ?_ | refine All.i fun X=>?_ | refine AllY.i fun Y=>?_))
    (refine AWP.ret ?_;(repeat (first | refine inB_r ?_ | refine andThen_r ?_));refine retQ_r ?_);refine Ends.ps ?_
    rw [eqF_no hb h hd]
   ·have hd:p a[i] b[i] = true:=by simpa using hd
    (repeat (first | refine WK ?_ | refine All.i fun X=>?_ | refine AllY.i fun Y=>?_))
    refine lp_next (i + 1) ⟨h,fun j h1 h2=>?_⟩
    by_cases e:j = i
    ·subst e;exact hd
    ·exact he j h1 (by omega)
  ·have h:¬ i < a.length:=by simpa using hc
   (repeat (first | refine WK ?_ | refine All.i fun X=>?_ | refine AllY.i fun Y=>?_))
   (refine AWP.ret ?_;(repeat (first | refine inB_r ?_ | refine andThen_r ?_));refine retQ_r ?_);refine Ends.ps ?_
   rw [eqF_yes hb fun j hj=>he j hj (by omega)]
theorem sameCompsT1_ps (x y:Comp) (hl:x.vals.length ≤ 1099511627776):PS Tryz.prog 130 [compA false x,compA false y] (bA (decide (x = y))):=by
 have heq:=equalI_ps x.vals y.vals hl
 rw [← compEq]
 refine Spec.of (nt:=17) (res:=[.tmp 4]) Tryz.func130 rfl (by kernel_rfl) rfl rfl rfl fun Sf=>?_
 (repeat refine WF ?_);refine AWP.region ?_;(repeat (first | (refine AOps.gN ?_;first | (refine AOps.g_box ?_;refine AOps.goB ?_)) | refine WO ?_ | refine All.i fun X=>?_ | refine AllY.i fun Y=>?_));refine AOps.nil ?_;(repeat refine WN ?_)
 rcases Bool.eq_false_or_eq_true (decide (x.kind = y.kind)) with g | g
 ·rw [g]
  (repeat (first | (refine AOps.gN ?_;first | (refine AOps.g_callf ?_;first | refine AOps.c2 (h:=(heq ..)) (k:=?_))) | refine WK ?_ | refine All.i fun X=>?_ | refine AllY.i fun Y=>?_))
  (refine AWP.ret ?_;(repeat (first | refine inB_r ?_ | refine andThen_r ?_));refine retQ_r ?_);refine Ends.ps ?_
  rfl
 ·rw [g]
  (repeat (first | refine WK ?_ | refine All.i fun X=>?_ | refine AllY.i fun Y=>?_))
  (refine AWP.ret ?_;(repeat (first | refine inB_r ?_ | refine andThen_r ?_));refine retQ_r ?_);refine Ends.ps ?_
  rfl
theorem sameCompsT_ps (a b:List Comp) (hl:CsL a):PS Tryz.prog 103 [compsA false false a,compsA false false b] (bA (decide (a = b))):=by
 have h:=equalFuncC_ps a b 130 [] (fun x y=>decide (x = y)) rfl (by have:=hl.1;omega) (fun x hx y _=>sameCompsT1_ps x y (hl.2 x hx))
 rw [eqF_eq fun _ _ _ _=>rfl] at h
 refine Spec.of (nt:=8) (res:=[.tmp 4]) Tryz.func103 rfl (by kernel_rfl) rfl rfl rfl fun Sf=>?_
 (repeat (first | (refine AOps.gN ?_;first | (refine AOps.g_callf ?_;first | refine AOps.c3 (h:=(h ..)) (k:=?_))) | refine WK ?_ | refine All.i fun X=>?_ | refine AllY.i fun Y=>?_))
 (refine AWP.ret ?_;(repeat (first | refine inB_r ?_ | refine andThen_r ?_));refine retQ_r ?_);refine Ends.ps ?_
 rfl
theorem sameItemsT1_ps (x y:Item) (hl:CsL x.comps):PS Tryz.prog 102 [itemA false x,itemA false y] (bA (decide (x = y))):=by
 have heq:=sameCompsT_ps x.comps y.comps hl
 rw [← itemEq]
 refine Spec.of (nt:=17) (res:=[.tmp 4]) Tryz.func102 rfl (by kernel_rfl) rfl rfl rfl fun Sf=>?_
 (repeat refine WF ?_);refine AWP.region ?_;(repeat (first | (refine AOps.gN ?_;first | (refine AOps.g_box ?_;refine AOps.goB ?_)) | refine WO ?_ | refine All.i fun X=>?_ | refine AllY.i fun Y=>?_));refine AOps.nil ?_;(repeat refine WN ?_)
 have hE:=entEql x.ent.n x.ent.gen y.ent.n y.ent.gen
 rw [show (decide (x.ent.n = y.ent.n) && decide (x.ent.gen = y.ent.gen)) = sameE x.ent y.ent from rfl] at hE
 cases hb:sameE x.ent y.ent
 ·rw [hb] at hE
  (repeat (first | (refine AOps.gN ?_;first | refine AOps.p (W.eqP _ _ (by kernel_rfl) hE rfl rfl) rfl ?_) | refine WK ?_ | refine All.i fun X=>?_ | refine AllY.i fun Y=>?_))
  (refine AWP.ret ?_;(repeat (first | refine inB_r ?_ | refine andThen_r ?_));refine retQ_r ?_);refine Ends.ps ?_
  rfl
 ·rw [hb] at hE
  (repeat (first | (refine AOps.gN ?_;first | (refine AOps.g_callf ?_;first | refine AOps.c2 (h:=(heq ..)) (k:=?_)) | refine AOps.p (W.eqP _ _ (by kernel_rfl) hE rfl rfl) rfl ?_) | refine WK ?_ | refine All.i fun X=>?_ | refine AllY.i fun Y=>?_))
  (refine AWP.ret ?_;(repeat (first | refine inB_r ?_ | refine andThen_r ?_));refine retQ_r ?_);refine Ends.ps ?_
  rfl
theorem sameItemsT_ps (a b:List Item) (hl:ItL a):PS Tryz.prog 58 [itemsA false false a,itemsA false false b] (bA (decide (a = b))):=by
 have h:=equalFuncT_ps a b 102 [] (fun x y=>decide (x = y)) rfl (by have:=hl.1;omega) (fun x hx y _=>sameItemsT1_ps x y (hl.2 x hx))
 rw [eqF_eq fun _ _ _ _=>rfl] at h
 refine Spec.of (nt:=8) (res:=[.tmp 4]) Tryz.func58 rfl (by kernel_rfl) rfl rfl rfl fun Sf=>?_
 (repeat (first | (refine AOps.gN ?_;first | (refine AOps.g_callf ?_;first | refine AOps.c3 (h:=(h ..)) (k:=?_))) | refine WK ?_ | refine All.i fun X=>?_ | refine AllY.i fun Y=>?_))
 (refine AWP.ret ?_;(repeat (first | refine inB_r ?_ | refine andThen_r ?_));refine retQ_r ?_);refine Ends.ps ?_
 rfl
theorem equalF_ps (a b:List Field) (hl:a.length ≤ 1099511627776):PS Tryz.prog 101 [fieldsA false a,fieldsA false b] (bA (decide (a = b))):=by
 refine Spec.of (nt:=26) (res:=[.tmp 4]) Tryz.func101 rfl (by kernel_rfl) rfl rfl rfl fun Sf=>?_
 (repeat (first | refine WK ?_ | refine All.i fun X=>?_ | refine AllY.i fun Y=>?_))
 refine AWP.cond rfl (fun hb=>?_) (fun hb=>?_)
 ·have hb:a.length ≠ b.length:=by simp at hb;omega
  (repeat (first | refine WK ?_ | refine All.i fun X=>?_ | refine AllY.i fun Y=>?_))
  (refine AWP.ret ?_;(repeat (first | refine inB_r ?_ | refine andThen_r ?_));refine retQ_r ?_);refine Ends.ps ?_
  rw [decide_eq_false fun e=>hb (by rw [e])]
 ·have hb:a.length = b.length:=by simp at hb;omega
  (repeat (first | refine WK ?_ | refine All.i fun X=>?_ | refine AllY.i fun Y=>?_))
  refine AWP.lp (fun i:Nat=>⟨[(0,fieldsA false a),(1,fieldsA false b),(12,iA (a.map fieldA).length),(13,iA i)],Sf⟩) (fun i=>i ≤ a.length ∧ ∀ j (h:j < a.length),j < i → a[j] = b[j]'(by omega)) (fun i=>a.length - i) 0 ⟨Nat.zero_le _,fun j h hj=>absurd hj (by omega)⟩ ?_
  rintro i ⟨hi,he⟩
  (repeat (first | refine WK ?_ | refine All.i fun X=>?_ | refine AllY.i fun Y=>?_))
  refine AWP.cond rfl (fun hc=>?_) (fun hc=>?_)
  ·have h:i < a.length:=by simpa using hc
   have h':i < b.length:=by omega
   obtain ⟨f,hf⟩:∃ f,a[i] = f:=⟨_,rfl⟩
   obtain ⟨g,hg⟩:∃ g,b[i] = g:=⟨_,rfl⟩
   have haf:(a.map fieldA)[i]? = some (fieldA f):=by rw [List.getElem?_map,List.getElem?_eq_getElem h,hf];rfl
   have hag:(b.map fieldA)[i]? = some (fieldA g):=by rw [List.getElem?_map,List.getElem?_eq_getElem h',hg];rfl
   (repeat (first | refine WK ?_ | refine All.i fun X=>?_ | refine AllY.i fun Y=>?_))
   (repeat refine WF ?_);refine AWP.region_run (by kernel_rfl) (by kernel_rfl) ?_;(repeat (first | (refine RGo.gN ?_;first | refine RGo.p (W.neP _ _ (by kernel_rfl) (fieldNeq f g) rfl rfl) rfl ?_) | (refine RGo.gQ ?_;first | refine RGo.p (W.neP _ _ (by kernel_rfl) (fieldNeq f g) rfl rfl) rfl ?_) | refine RK ?_ | refine RGo.nil (by kernel_rfl) ?_))
   (repeat (first | refine WK ?_ | refine All.i fun X=>?_ | refine AllY.i fun Y=>?_))
   refine AWP.cond rfl (fun hd=>?_) (fun hd=>?_)
   ·have hd:f ≠ g:=by simpa using hd
    (repeat (first | refine WK ?_ | refine All.i fun X=>?_ | refine AllY.i fun Y=>?_))
    (refine AWP.ret ?_;(repeat (first | refine inB_r ?_ | refine andThen_r ?_));refine retQ_r ?_);refine Ends.ps ?_
    rw [decide_eq_false fun e=>hd (by subst e;rw [← hf,← hg])]
   ·have hd:f = g:=by simpa using hd
    (repeat (first | refine WK ?_ | refine All.i fun X=>?_ | refine AllY.i fun Y=>?_))
    refine lp_next (i + 1) ⟨h,fun j h1 h2=>?_⟩
    by_cases e:j = i
    ·subst e;rw [hf,hg,hd]
    ·exact he j h1 (by omega)
  ·have h:¬ i < a.length:=by simpa using hc
   (repeat (first | refine WK ?_ | refine All.i fun X=>?_ | refine AllY.i fun Y=>?_))
   (refine AWP.ret ?_;(repeat (first | refine inB_r ?_ | refine andThen_r ?_));refine retQ_r ?_);refine Ends.ps ?_
   rw [decide_eq_true (List.ext_getElem hb fun j h1 h2=>he j h1 (by omega))]
theorem kindEq (x y:Kind):(decide (x.name = y.name) && decide (x.fields = y.fields)) = decide (x = y):=by
 obtain ⟨k,v⟩:=x
 obtain ⟨k',v'⟩:=y
 rw [Bool.eq_iff_iff]
 simp
theorem sameKindsT1_ps (x y:Kind) (hl:x.fields.length ≤ 1099511627776):PS Tryz.prog 100 [kindA false x,kindA false y] (bA (decide (x = y))):=by
 have heq:=equalF_ps x.fields y.fields hl
 rw [← kindEq]
 refine Spec.of (nt:=17) (res:=[.tmp 4]) Tryz.func100 rfl (by kernel_rfl) rfl rfl rfl fun Sf=>?_
 (repeat refine WF ?_);refine AWP.region ?_;(repeat (first | (refine AOps.gN ?_;first | (refine AOps.g_box ?_;refine AOps.goB ?_)) | refine WO ?_ | refine All.i fun X=>?_ | refine AllY.i fun Y=>?_));refine AOps.nil ?_;(repeat refine WN ?_)
 rcases Bool.eq_false_or_eq_true (decide (x.name = y.name)) with g | g
 ·rw [g]
  (repeat (first | (refine AOps.gN ?_;first | (refine AOps.g_callf ?_;first | refine AOps.c2 (h:=(heq ..)) (k:=?_))) | refine WK ?_ | refine All.i fun X=>?_ | refine AllY.i fun Y=>?_))
  (refine AWP.ret ?_;(repeat (first | refine inB_r ?_ | refine andThen_r ?_));refine retQ_r ?_);refine Ends.ps ?_
  rfl
 ·rw [g]
  (repeat (first | refine WK ?_ | refine All.i fun X=>?_ | refine AllY.i fun Y=>?_))
  (refine AWP.ret ?_;(repeat (first | refine inB_r ?_ | refine andThen_r ?_));refine retQ_r ?_);refine Ends.ps ?_
  rfl
theorem sameKindsT_ps (a b:List Kind) (hl:KsL a):PS Tryz.prog 57 [kindsA false false a,kindsA false false b] (bA (decide (a = b))):=by
 have h:=equalFuncK_ps a b 100 [] (fun x y=>decide (x = y)) rfl (by have:=hl.1;omega) (fun x hx y _=>sameKindsT1_ps x y (hl.2 x hx))
 rw [eqF_eq fun _ _ _ _=>rfl] at h
 refine Spec.of (nt:=8) (res:=[.tmp 4]) Tryz.func57 rfl (by kernel_rfl) rfl rfl rfl fun Sf=>?_
 (repeat (first | (refine AOps.gN ?_;first | (refine AOps.g_callf ?_;first | refine AOps.c3 (h:=(h ..)) (k:=?_))) | refine WK ?_ | refine All.i fun X=>?_ | refine AllY.i fun Y=>?_))
 (refine AWP.ret ?_;(repeat (first | refine inB_r ?_ | refine andThen_r ?_));refine retQ_r ?_);refine Ends.ps ?_
 rfl
set_option maxRecDepth 4000 in
theorem sameT_ps (a b:Wd) (hl:WdL a):PS Tryz.prog 19 [wdA false a,wdA false b] (bA (decide (a = b))):=by
 have h1:=sameKindsT_ps a.kinds b.kinds hl.ks
 have h2:=equalI_ps a.gens b.gens hl.gens
 have h3:=sameItemsT_ps a.items b.items hl.items
 rw [← wdEq]
 refine Spec.of (nt:=24) (res:=[.tmp 4]) Tryz.func19 rfl (by kernel_rfl) rfl rfl rfl fun Sf=>?_
 (repeat refine WF ?_);refine AWP.region ?_;(repeat (first | (refine AOps.gN ?_;first | (refine AOps.g_box ?_;refine AOps.goB ?_)) | refine WO ?_ | refine All.i fun X=>?_ | refine AllY.i fun Y=>?_));refine AOps.nil ?_;(repeat refine WN ?_)
 obtain ⟨b1,e1⟩:∃ b1,decide (a.kinds = b.kinds) = b1:=⟨_,rfl⟩
 obtain ⟨b2,e2⟩:∃ b2,decide (a.gens = b.gens) = b2:=⟨_,rfl⟩
 rw [e1] at h1 ⊢
 rw [e2] at h2 ⊢
 cases b1
 ·(repeat (first | (refine AOps.gN ?_;first | (refine AOps.g_callf ?_;first | refine AOps.c2 (h:=(h1 ..)) (k:=?_))) | refine WK ?_ | refine All.i fun X=>?_ | refine AllY.i fun Y=>?_))
  (refine AWP.ret ?_;(repeat (first | refine inB_r ?_ | refine andThen_r ?_));refine retQ_r ?_);refine Ends.ps ?_
  rfl
 ·cases b2
  ·(repeat (first | (refine AOps.gN ?_;first | (refine AOps.g_callf ?_;first | refine AOps.c2 (h:=(h1 ..)) (k:=?_) | refine AOps.c2 (h:=(h2 ..)) (k:=?_))) | refine WK ?_ | refine All.i fun X=>?_ | refine AllY.i fun Y=>?_))
   (refine AWP.ret ?_;(repeat (first | refine inB_r ?_ | refine andThen_r ?_));refine retQ_r ?_);refine Ends.ps ?_
   rfl
  ·(repeat (first | (refine AOps.gN ?_;first | (refine AOps.g_callf ?_;first | refine AOps.c2 (h:=(h1 ..)) (k:=?_) | refine AOps.c2 (h:=(h2 ..)) (k:=?_) | refine AOps.c2 (h:=(h3 ..)) (k:=?_))) | refine WK ?_ | refine All.i fun X=>?_ | refine AllY.i fun Y=>?_))
   (refine AWP.ret ?_;(repeat (first | refine inB_r ?_ | refine andThen_r ?_));refine retQ_r ?_);refine Ends.ps ?_
   rfl
section
open Go.RowKit
def baseM (w:World):Mem:=⟨fun _=>none,fun _=>False,w,fun b=>b < w.heap.size⟩
theorem baseM_good (w:World):Good (baseM w) (baseM w) 0 [] [] :=
 ⟨fun z hz=>(by cases hz),.nil,fun b hb=>(by cases hb),fun b h=>h,.nil,fun x hx=>(by cases hx),fun x h=>h.elim,.refl _,rfl,rfl,rfl,Nat.le_refl _⟩
theorem Good.bel {w:World} {m':Mem} {N:Nat} {Z:Zs} {br:List Nat} (G:Good (baseM w) m' N Z br):Below w.heap.size w m'.w :=
 ⟨G.os,G.tape,G.output,G.size,fun k hk=>(G.le.F k hk).2⟩
theorem PS.calls_bool {P:Program} {f:FuncId} {args:List AV} {b:Bool} (h:PS P f args (bA b)) {w:World} {vals:Array Value} (hv:VTs (baseM w) args vals.toList []) :
  Calls P f vals w fun e w'=>e = .returned (.bool b) ∧ Below w.heap.size w w' :=
 (h.run [] (baseM w) 0 [] vals rfl (baseM_good w) hv).mono fun e w' ⟨v,r,S',m',N',Z',br,h1,h2,h3,G,h4,h5,h6⟩=>by
  subst h1 h2 h5
  refine ⟨?_,G.bel⟩
  obtain ⟨⟨h7,_⟩,_⟩:=h4
  injection h7 with h7
  rw [h7]
theorem cells_vcs {α:Type} {m:Mem} {C:List Value → α → Prop} {sz:Nat} {f:α → AV} (hC:∀ c x,C c x → VC m (f x) c []):∀ {l:List α} {xs:List Value},Cells C sz xs l → VCs m (l.map f) xs []
 | [],_,h=>⟨h,rfl⟩
 | x :: l,_,⟨c,ys,h1,h2,h3,h4⟩=>⟨c,ys,[],[],h1,rfl,hC c x h3,cells_vcs hC h4⟩
theorem cell_block {w:World} {b o:Nat} {u:Value} (h:w.cell? ⟨b,o,none⟩ = some u):∃ arr t r,w.heap[b]? = some (.cells arr t r) ∧ arr[o]? = some u:=by
 unfold World.cell? at h
 cases hb:w.heap[b]? with
 | none=>simp only [hb] at h;cases h
 | some blk =>
  cases blk with
  | cells c t r=>simp only [hb] at h;exact ⟨c,t,r,rfl,by simpa using h⟩
  | _=>simp only [hb] at h;cases h
theorem sl_vc {α:Type} {w:World} {C:World → Reg → List Value → α → Prop} {sz:Nat} {f:α → AV} {t:TypeId} {v:Value} {l:List α} (hsz:0 < sz) (hC:∀ c x,C w (Lt w) c x → VC (baseM w) (f x) c []) (hw:∀ x,(f x).width = sz) (h:Sl w (Lt w) sz C v l):VC (baseM w) (.lst false t sz (l.map f)) [v] []:=by
 obtain ⟨xs,⟨h1,A,cap,rfl,hn,hr⟩,hc⟩:=h
 refine ⟨rfl,A,cap,by simp,by simpa using hn,fun e he=>by obtain ⟨x,_,rfl⟩:=List.mem_map.1 he;exact hw x,fun h0=>?_⟩
 have h0:0 < l.length:=by simpa using h0
 obtain ⟨b,off,rfl,hb,hcell⟩:=hr h0
 have hx:0 < xs.length:=by rw [h1];exact Nat.mul_pos h0 hsz
 obtain ⟨arr,t',r,h2,h3⟩:=cell_block (hcell 0 xs[0] (by simp))
 refine ⟨b,off,arr,t',r,rfl,hb,h2,?_⟩
 have e:(arr.toList.drop off).take ((l.map f).length * sz) = xs:=by
  apply List.ext_getElem?
  intro j
  rw [List.getElem?_take]
  split
  ·rename_i hj
   have hj:j < xs.length:=by rw [h1];simpa using hj
   obtain ⟨arr2,t2,r2,h4,h5⟩:=cell_block (hcell j xs[j] (by simp))
   rw [h2] at h4
   injection h4 with h4
   injection h4 with h4
   subst h4
   rw [List.getElem?_drop,List.getElem?_eq_getElem hj]
   simpa using h5
  ·rename_i hj
   rw [List.getElem?_eq_none]
   rw [h1];simpa using hj
 rw [e]
 exact cells_vcs hC hc
theorem ints_vc {w:World} {v:Value} {l:List Int} (h:Ints w (Lt w) v l):VC (baseM w) (intsA false l) [v] [] :=
 sl_vc (f:=iA) (by decide) (fun c x hc=>⟨⟨hc,rfl⟩,rfl⟩) (fun _=>rfl) h
theorem vts_nil {m:Mem}:VTs m [] [] []:=⟨rfl,rfl⟩
theorem vts_ints {w:World} {v:Value} {z:List Int} {l:List AV} {us:List Value} (h:Ints w (Lt w) v z) (k:VTs (baseM w) l us []):VTs (baseM w) (intsA false z :: l) (v :: us) []:=(VTs_cons rfl).2 ⟨_,_,[],[],rfl,rfl,ints_vc h,k⟩
end
section
open Go.RowKit
theorem CmdsL.sub {ks:List Kind} {l m:List Cmd} (h:CmdsL ks l) (hs:∀ c ∈ m,c ∈ l):CmdsL ks m:=⟨fun c hc=>h.ok c (hs c hc),fun c hc=>h.n c (hs c hc),fun c hc=>h.l c (hs c hc)⟩
theorem runW_ents:∀ (l:List Cmd) (w:Wd),(runW w l).2.1.length ≤ l.length
 | [],w=>Nat.le_refl _
 | c :: l,w=>by
  have:=runW_ents l (actW w c).1
  rw [runW,List.length_cons]
  dsimp only
  split
  ·rw [List.length_cons];omega
  ·omega
theorem cmdSame_same (l:List Cmd) (hl:l.length ≤ 4611686018427387904) (hc:∀ c ∈ l,CsL c.comps):PS Tryz.prog 27 [cmdsA false l,cmdsA false l] (bA true):=by
 have:=cmdSame_ps l l hl hc
 rwa [eqF_eq (fun x _ y _=>rfl),decide_eq_true rfl] at this
set_option maxRecDepth 8000 in
theorem cmdTrims_ps (l m:List Int) (hl:l.length * 8 ≤ 140737488351232) (hm:m.length * 8 ≤ 140737488351232):PS Tryz.prog 5 [intsA false l,intsA false m] (bA true):=by
 have hwp:=world_ps l
 have hok:=genWorld_ok l
 obtain ⟨hk0,hk4⟩:=genWorld_ks l
 obtain ⟨w,hw⟩:∃ w,genWorld l = w:=⟨_,rfl⟩
 rw [hw] at hwp hok hk0 hk4
 clear hw
 have hcm:=cmds_ps w m hok hk0 hm
 have hcl:=cmdsOf_len w m
 obtain ⟨hco,hcs⟩:=cmdsOf_ok hok hk0 m
 obtain ⟨c,hc⟩:∃ c,cmdsOf w m = c:=⟨_,rfl⟩
 rw [hc] at hcm hcl hco hcs
 obtain ⟨t1,t2,t3,t4,t5⟩:=runW_trim c w
 have a1:=apply_ps w c hok (by omega) (by omega) hco
 have a2:=trim_ps w c hok (by omega) (by omega) hco (fun x hx=>(hcs x hx).2)
 have hcot:=hco.sub t5
 have hcst:∀ x ∈ trimW w c,CsL x.comps:=fun x hx=>hcs x (t5 x hx)
 have a3:=apply_ps w (trimW w c) hok (by omega) (by omega) hcot
 have a4:=trim_ps w (trimW w c) hok (by omega) (by omega) hcot (fun x hx=>(hcst x hx).2)
 rw [t1,t2] at a3
 rw [t3] at a4
 have hel:=runW_ents c w
 have hwo:=(runW_ok hok hco.ok).1
 obtain ⟨⟨v,es,ds⟩,hv⟩:∃ q,runW w c = q:=⟨_,rfl⟩
 rw [hv] at a1 a3 hwo hel
 obtain ⟨t,ht⟩:∃ t,trimW w c = t:=⟨_,rfl⟩
 rw [ht] at a2 a3 a4 t4 hcst
 dsimp only at a1 a3 hwo hel
 have e1:=sameT_ps v v hwo.wl
 rw [decide_eq_true rfl] at e1
 have e2:=equalE_ps es es (by omega)
 rw [decide_eq_true rfl] at e2
 have e3:=cmdSame_same t (by omega) hcst
 have hlt:(t.map cmdA).length = t.length:=List.length_map _
 have hlc:(c.map cmdA).length = c.length:=List.length_map _
 refine Spec.of (nt:=86) (res:=[.tmp 4]) Tryz.func5 rfl (by kernel_rfl) rfl rfl rfl fun Sf=>?_
 (repeat refine WF ?_);refine AWP.region ?_;(repeat (first | refine WO ?_ | refine All.i fun X=>?_ | refine AllY.i fun Y=>?_));refine AOps.nil ?_;(repeat refine WN ?_)
 (repeat first | refine AOps.nil ?_ | refine WF ?_)
 (repeat refine WF ?_);refine AWP.region ?_;(repeat (first | (refine AOps.gN ?_;first | (refine AOps.g_callf ?_;first | refine AOps.c0 (h:=(killed_ps ..)) (k:=?_))) | refine WO ?_ | refine All.i fun X=>?_ | refine AllY.i fun Y=>?_));refine AOps.nil ?_;(repeat refine WN ?_)
 refine AWP.cond_f rfl rfl ?_
 (repeat first | refine AOps.nil ?_ | refine WF ?_)
 (repeat refine WF ?_);refine AWP.region ?_;(repeat (first | (refine AOps.gN ?_;first | (refine AOps.g_callf ?_;first | refine AOps.c1 (h:=(hwp ..)) (k:=?_))) | refine WO ?_ | refine All.i fun V1=>?_ | refine AllY.i fun Y=>?_));refine AOps.nil ?_;(repeat refine WN ?_)
 (repeat first | refine AOps.nil ?_ | refine WF ?_)
 (repeat refine WF ?_);refine AWP.region ?_;(repeat (first | (refine AOps.gN ?_;first | (refine AOps.g_callf ?_;first | refine AOps.c2 (h:=(hcm ..)) (k:=?_))) | refine WO ?_ | refine All.i fun X=>?_ | refine AllY.i fun Y=>?_));refine AOps.nil ?_;(repeat refine WN ?_)
 (repeat first | refine AOps.nil ?_ | refine WF ?_)
 (repeat refine WF ?_);refine AWP.region ?_;(repeat (first | (refine AOps.gN ?_;first | (refine AOps.g_callf ?_;first | refine AOps.c2 (h:=(a1 ..)) (k:=?_))) | refine WO ?_ | refine All.i fun V2=>?_ | refine AllY.i fun Y=>?_));refine AOps.nil ?_;(repeat refine WN ?_)
 (repeat first | refine AOps.nil ?_ | refine WF ?_)
 (repeat refine WF ?_);refine AWP.region ?_;(repeat (first | (refine AOps.gN ?_;first | (refine AOps.g_callf ?_;first | refine AOps.c2 (h:=(a2 ..)) (k:=?_))) | refine WO ?_ | refine All.i fun X=>?_ | refine AllY.i fun Y=>?_));refine AOps.nil ?_;(repeat refine WN ?_)
 (repeat first | refine AOps.nil ?_ | refine WF ?_)
 (repeat refine WF ?_);refine AWP.region ?_;(repeat (first | (refine AOps.gN ?_;first | (refine AOps.g_callf ?_;first | refine AOps.c2 (h:=(a3 ..)) (k:=?_))) | refine WO ?_ | refine All.i fun V3=>?_ | refine AllY.i fun Y=>?_));refine AOps.nil ?_;(repeat refine WN ?_)
 (repeat first | refine AOps.nil ?_ | refine WF ?_)
 (repeat refine WF ?_);refine AWP.region ?_;(repeat (first | (refine AOps.gN ?_;first | (refine AOps.g_callf ?_;first | refine AOps.c2 (h:=(a4 ..)) (k:=?_))) | refine WO ?_ | refine All.i fun X=>?_ | refine AllY.i fun Y=>?_));refine AOps.nil ?_;(repeat refine WN ?_)
 (repeat first | refine AOps.nil ?_ | refine WF ?_)
 (repeat refine WF ?_);refine AWP.region ?_;(repeat (first | (refine AOps.gN ?_;first | (refine AOps.g_callf ?_;first | refine AOps.c2 (h:=(e1 ..)) (k:=?_) | refine AOps.c2 (h:=(e2 ..)) (k:=?_) | refine AOps.c2 (h:=(e3 ..)) (k:=?_))) | refine WO ?_ | refine All.i fun X=>?_ | refine AllY.i fun Y=>?_));refine AOps.nil ?_;(repeat refine WN ?_)
 (refine AWP.ret ?_;(repeat (first | refine inB_r ?_ | refine andThen_r ?_));refine retQ_r ?_)
 refine Ends.ps ?_
 rw [decide_eq_true (by omega)]
theorem cmdTrims_calls (z0:List Int) (A0:Option Addr) (n0 cap0:Nat) (z1:List Int) (A1:Option Addr) (n1 cap1:Nat) (w:World) (h0:Ints w (Lt w) (.slice A0 n0 cap0) z0) (hlen0:z0.length * 8 ≤ 140737488351232) (h1:Ints w (Lt w) (.slice A1 n1 cap1) z1) (hlen1:z1.length * 8 ≤ 140737488351232) :
  Calls Tryz.prog 5 #[.slice A0 n0 cap0,.slice A1 n1 cap1] w fun e w'=>e = .returned (.bool true) ∧ Below w.heap.size w w' :=
 (cmdTrims_ps z0 z1 hlen0 hlen1).calls_bool (vts_ints h0 (vts_ints h1 (vts_nil)))
end
end Go.Proofs.YtnlekapghebhlaaGreat
