/-
  Part 6 of the texts under the law WorldSmallest: the layer of abstract values, walks and plain laws. Conditions: those that each theorem names.
-/
import Derived.Below
import Derived.Test.YtfkppbkipbbmaaaWorldSmallestP5
namespace Go.Proofs.Ytfkppbkipbbmaaa
set_option linter.unusedVariables false
def nameI (s : List UInt8) : List Int := (s.length : Int) :: s.map fun b => (b.toNat : Int)
abbrev outO (l : List Int) : AO := .row 22 1 [intsA true l]
theorem nameI_at {s : List UInt8} {i : Nat} (h : i < s.length) : (nameI s).take (i + 2) = (nameI s).take (i + 1) ++ [((s.getD i 0).toNat : Int)] := by
  have hn : i + 1 < (nameI s).length := by simp [nameI]; omega
  rw [List.take_succ_eq_append_getElem hn]
  congr 2
  simp [nameI, List.getD_eq_getElem?_getD, h]
theorem intsName_po (X : Nat) (l : List Int) (s : List UInt8) (hl : (l ++ nameI s).length * 8 ≤ 140737488351232) : PO Try.prog 84 [sA s, .ptr X 0 0] X (outO l) (.tup []) (outO (l ++ nameI s)) := by
  refine Spec.of (nt := 22) (res := []) Try.func84 rfl (by kernel_rfl) rfl rfl rfl fun Sf => ?_
  have hnl : (nameI s).length = s.length + 1 := by simp [nameI]
  rw [List.length_append, hnl] at hl
  refine AWP.thawIn .here (fun Y => .head .here) fun K => ?_
  have hb : ((l.map iA).length + [iA (s.length : Int)].length) * 8 ≤ 140737488355328 := by simp; omega
  (repeat (first | (refine AOps.gN ?_; first | (refine AOps.g_lit ?_; refine AOps.goL (iA (s.length : Int)) ?_)) | refine WK ?_ | refine All.i fun X => ?_ | refine AllY.i fun Y => ?_))
  refine AWP.lp4 (fun (i K n : Nat) (M : List AV) => ⟨[(0, sA s), (1, .ptr X 0 0), (10, iA s.length), (11, iA i)], (K, .row 3 1 M) :: (X, .row 22 1 [.sl K 0 n]) :: Sf⟩) (fun i _ n M => i ≤ s.length ∧ n = M.length ∧ M = (l ++ (nameI s).take (i + 1)).map iA) (fun i _ _ _ => s.length - i) 0 Y _ _ ⟨Nat.zero_le _, ?_, ?_⟩ ?_
  · simp
  · rw [List.map_append]; rfl
  rintro i K n M ⟨hi, hn, hM⟩
  (repeat (first | refine WK ?_ | refine All.i fun X => ?_ | refine AllY.i fun Y => ?_))
  refine AWP.cond rfl (fun hc => ?_) (fun hc => ?_)
  · have h : i < s.length := by rw [decide_eq_true_eq] at hc; omega
    have hMl : n = l.length + (i + 1) := by rw [hn, hM, List.length_map, List.length_append, List.length_take, hnl]; omega
    have hb : (n + [iA ((s.getD i 0).toNat : Int)].length) * 8 ≤ 140737488355328 := by simp; omega
    (repeat (first | refine WK ?_ | refine All.i fun X => ?_ | refine AllY.i fun Y => ?_))
    refine AWP.rs fun Y => ?_
    have hw : IntKind.i64.wrap ((s.getD i 0).toNat : Int) = ((s.getD i 0).toNat : Int) := wrap_id (by omega) (by have := (s.getD i 0).toNat_lt; omega)
    (repeat refine WF ?_); refine AWP.region_run (by kernel_rfl) (by kernel_rfl) ?_; (repeat (first | (refine RGo.gN ?_; first | refine RGo.p (W.conv .u8 .i64 (by kernel_rfl) (by kernel_rfl) rfl hw) rfl ?_ | (refine RGo.g_lit ?_; refine RGo.goL (iA ((s.getD i 0).toNat : Int)) ?_)) | (refine RGo.gQ ?_; first | refine RGo.p (W.conv .u8 .i64 (by kernel_rfl) (by kernel_rfl) rfl hw) rfl ?_ | (refine RGo.g_lit ?_; refine RGo.goL (iA ((s.getD i 0).toNat : Int)) ?_)) | refine RK ?_ | refine RGo.nil (by kernel_rfl) ?_))
    (repeat (first | refine WK ?_ | refine All.i fun X => ?_ | refine AllY.i fun Y => ?_))
    refine lp_next4 (i + 1) Y _ _ ⟨h, ?_, ?_⟩
    · rw [List.length_append, ← hn]
    · rw [nameI_at h, hM, ← List.append_assoc, List.map_append (l₂ := [_])]; rfl
  · have h : i = s.length := by rw [decide_eq_false_iff_not] at hc; omega
    subst h
    rw [List.take_of_length_le (by omega)] at hM
    subst hM
    refine AWP.closeIn (X := K) .here (.next .here) rfl hn (.head .here) ?_
    (repeat (first | refine WK ?_ | refine All.i fun X => ?_ | refine AllY.i fun Y => ?_))
    refine retQ_n ?_
    exact Ends.void [(X, outO (l ++ nameI s))] ⟨rfl, rfl⟩
def fieldI (f : Field) : List Int := nameI f.name ++ [f.bits, f.low]
def kindI (k : Kind) : List Int := nameI k.name ++ (k.fields.length : Int) :: k.fields.flatMap fieldI
def compI (c : Comp) : List Int := c.kind :: (c.vals.length : Int) :: c.vals
def itemI (it : Item) : List Int := it.ent.n :: it.ent.gen :: (it.comps.length : Int) :: it.comps.flatMap compI
/-- What world.Ints returns. -/
def intsOf (w : Wd) : List Int := (w.kinds.length : Int) :: (w.kinds.flatMap kindI ++ ((w.gens.length : Int) :: (w.gens ++ ((w.items.length : Int) :: w.items.flatMap itemI))))
theorem dropF {α : Type} {f : α → List Int} {l : List α} {i : Nat} {x : α} (h : i < l.length) (e : l[i] = x) : (l.drop i).flatMap f = f x ++ (l.drop (i + 1)).flatMap f := by
  rw [List.drop_eq_getElem_cons h, e, List.flatMap_cons]
theorem bndA {A B R : List Int} (hl : R.length * 8 ≤ 140737488351232) (e : A ++ B = R) : A.length * 8 ≤ 140737488351232 := by
  have : A.length + B.length = R.length := by rw [← e, List.length_append]
  omega
set_option maxHeartbeats 4000000 in
set_option maxRecDepth 4000 in
theorem ints_ps (w : Wd) (hl : (intsOf w).length * 8 ≤ 140737488351232) (hw : WdL w) : PS Try.prog 48 [wdA false w] (intsA true (intsOf w)) := by
  obtain ⟨R, hR⟩ : ∃ R, intsOf w = R := ⟨_, rfl⟩
  have hin := hR
  unfold intsOf at hin
  rw [hR] at hl ⊢
  obtain ⟨ks, gens, items⟩ := w
  obtain ⟨⟨hk0, hk1⟩, hg, ⟨hi0, hi1⟩⟩ := hw
  dsimp only at hin hk0 hk1 hg hi0 hi1
  obtain ⟨tail, htail⟩ : ∃ tail, ((gens.length : Int) :: (gens ++ ((items.length : Int) :: items.flatMap itemI))) = tail := ⟨_, rfl⟩
  rw [htail] at hin
  refine Spec.of (nt := 112) (res := [.tmp 2]) Try.func48 rfl (by kernel_rfl) rfl rfl rfl fun Sf => ?_
  have hkm : (ks.map (kindA false)).length = ks.length := List.length_map _
  have hgm : (gens.map iA).length = gens.length := List.length_map _
  have him : (items.map (itemA false)).length = items.length := List.length_map _
  (repeat refine WF ?_); refine AWP.region ?_; (repeat (first | (refine AOps.gN ?_; first | (refine AOps.g_box ?_; refine AOps.goB ?_)) | refine WO ?_ | refine All.i fun X => ?_ | refine AllY.i fun Y => ?_)); refine AOps.nil ?_; (repeat refine WN ?_)
  refine AWP.rs fun K0 => ?_
  (repeat refine WF ?_); refine AWP.region ?_; (repeat (first | (refine AOps.gN ?_; first | refine AOps.s (W.lit1 (X := K0) (l := [iA ((ks.map (kindA false)).length : Int)]) (by exact rfl) (by exact At.f) (by exact rfl) (by exact .inr rfl) (by decide) (by decide) (by exact rfl)) rfl ?_) | refine WO ?_ | refine All.i fun X => ?_ | refine AllY.i fun Y => ?_)); refine AOps.nil ?_; (repeat refine WN ?_)
  rw [hkm]
  refine AWP.closeIn (X := K0) (Y := X) (.next .here) .here rfl rfl (.head .here) ?_
  (repeat (first | refine WK ?_ | refine All.i fun X => ?_ | refine AllY.i fun Y => ?_))
  refine AWP.lp2 (fun (i : Nat) (L : List Int) => ⟨[(1, .fp (wdA false ⟨ks, gens, items⟩).cells), (3, .ptr X 0 0), (4, .fn 84 [.ptr X 0 0]), (19, kindsA false false ks), (20, iA (ks.map (kindA false)).length), (21, iA i)], (X, outO L) :: Sf⟩) (fun i L => i ≤ ks.length ∧ L ++ ((ks.drop i).flatMap kindI ++ tail) = R) (fun i _ => ks.length - i) 0 [(ks.length : Int)] ⟨Nat.zero_le _, hin⟩ ?_
  rintro i L ⟨hi, he⟩
  (repeat (first | refine WK ?_ | refine All.i fun X => ?_ | refine AllY.i fun Y => ?_))
  refine AWP.cond rfl (fun hc => ?_) (fun hc => ?_)
  · have h : i < ks.length := by rw [decide_eq_true_eq, hkm] at hc; omega
    obtain ⟨⟨kn, kf⟩, hk⟩ : ∃ k, ks[i] = k := ⟨_, rfl⟩
    have hat : (ks.map (kindA false))[i]? = some (kindA false ⟨kn, kf⟩) := by rw [List.getElem?_map, List.getElem?_eq_getElem h, hk]; rfl
    have hkl := hk1 _ (hk ▸ List.getElem_mem h)
    dsimp only at hkl
    rw [dropF h hk, kindI, ← List.append_assoc, ← List.append_assoc, ← List.append_assoc] at he
    have hkfm : (kf.map fieldA).length = kf.length := List.length_map _
    dsimp only at he
    have he1 : (L ++ nameI kn) ++ ([(kf.length : Int)] ++ (kf.flatMap fieldI ++ ((ks.drop (i + 1)).flatMap kindI ++ tail))) = R := by rw [← he]; simp
    have hcn := intsName_po X L kn (bndA hl he1)
    (repeat refine WF ?_); refine AWP.region ?_; (repeat (first | refine WO ?_ | refine All.i fun V => ?_ | refine AllY.i fun Y => ?_)); refine AOps.nil ?_; (repeat refine WN ?_)
    (repeat refine WF ?_); refine AWP.region ?_; (repeat (first | (refine AOps.gN ?_; first | (refine AOps.g_callv ?_; first | refine AOps.zc1 (h := hcn) (hT := .frz) (k := ?_))) | refine WO ?_ | refine All.i fun X => ?_ | refine AllY.i fun Y => ?_)); refine AOps.nil ?_; (repeat refine WN ?_)
    obtain ⟨L1, hL1⟩ : ∃ L1, L ++ nameI kn = L1 := ⟨_, rfl⟩
    rw [hL1] at he1 ⊢
    have he2 : (L1 ++ [(kf.length : Int)]) ++ (kf.flatMap fieldI ++ ((ks.drop (i + 1)).flatMap kindI ++ tail)) = R := by rw [← he1, List.append_assoc]
    refine AWP.thawIn (Y := X) (.next .here) (fun _ => .head .here) fun K => ?_
    have hb : ((L1.map iA).length + ([iA ((kf.map fieldA).length : Int)]).length) * 8 ≤ 140737488355328 := by have := bndA hl he2; simp at this ⊢; omega
    (repeat refine WF ?_); refine AWP.region ?_; (repeat (first | (refine AOps.gN ?_; first | (refine AOps.g_lit ?_; refine AOps.goL (iA (kf.map fieldA).length) ?_)) | refine WO ?_ | refine All.i fun X => ?_ | refine AllY.i fun Y => ?_)); refine AOps.nil ?_; (repeat refine WN ?_)
    have hrow : L1.map iA ++ [iA ((kf.map fieldA).length : Int)] = (L1 ++ [(kf.length : Int)]).map iA := by first | (rw [List.map_append, hkfm]; rfl) | rw [List.map_append, hkfm]
    rw [hrow]
    clear hrow hb
    refine AWP.closeIn (X := Y) (Y := X) .here (.next (.next .here)) rfl (by simp) (.head .here) ?_
    obtain ⟨T2, hT2⟩ : ∃ T2, (ks.drop (i + 1)).flatMap kindI ++ tail = T2 := ⟨_, rfl⟩
    rw [hT2] at he2
    clear he he1 hcn hL1 hin
    (repeat (first | refine WK ?_ | refine All.i fun X => ?_ | refine AllY.i fun Y => ?_))
    refine AWP.lp2 (fun (j : Nat) (L : List Int) => ⟨[(1, .fp (wdA false ⟨ks, gens, items⟩).cells), (3, .ptr X 0 0), (4, .fn 84 [.ptr X 0 0]), (19, kindsA false false ks), (20, iA (ks.map (kindA false)).length), (21, iA i), (36, fieldsA false kf), (37, iA (kf.map fieldA).length), (38, iA j)], (X, outO L) :: Sf⟩) (fun j L => j ≤ kf.length ∧ L ++ ((kf.drop j).flatMap fieldI ++ T2) = R) (fun j _ => kf.length - j) 0 (L1 ++ [(kf.length : Int)]) ⟨Nat.zero_le _, he2⟩ ?_
    clear he2 L1 L
    rintro j L ⟨hj, he⟩
    (repeat (first | refine WK ?_ | refine All.i fun X => ?_ | refine AllY.i fun Y => ?_))
    refine AWP.cond rfl (fun hd => ?_) (fun hd => ?_)
    · have h' : j < kf.length := by rw [decide_eq_true_eq, hkfm] at hd; omega
      obtain ⟨⟨fn, fb, fl⟩, hf⟩ : ∃ f, kf[j] = f := ⟨_, rfl⟩
      have hat2 : (kf.map fieldA)[j]? = some (fieldA ⟨fn, fb, fl⟩) := by rw [List.getElem?_map, List.getElem?_eq_getElem h', hf]; rfl
      rw [dropF h' hf, fieldI] at he
      dsimp only at he
      have he1 : (L ++ nameI fn) ++ ([fb, fl] ++ ((kf.drop (j + 1)).flatMap fieldI ++ T2)) = R := by rw [← he]; simp
      have hcn := intsName_po X L fn (bndA hl he1)
      (repeat refine WF ?_); refine AWP.region ?_; (repeat (first | refine WO ?_ | refine All.i fun V2 => ?_ | refine AllY.i fun Y => ?_)); refine AOps.nil ?_; (repeat refine WN ?_)
      (repeat refine WF ?_); refine AWP.region ?_; (repeat (first | (refine AOps.gN ?_; first | (refine AOps.g_callv ?_; first | refine AOps.zc1 (h := hcn) (hT := .frz) (k := ?_))) | refine WO ?_ | refine All.i fun X => ?_ | refine AllY.i fun Y => ?_)); refine AOps.nil ?_; (repeat refine WN ?_)
      obtain ⟨L1, hL1⟩ : ∃ L1, L ++ nameI fn = L1 := ⟨_, rfl⟩
      rw [hL1] at he1 ⊢
      have he2 : (L1 ++ [fb, fl]) ++ ((kf.drop (j + 1)).flatMap fieldI ++ T2) = R := by rw [← he1, List.append_assoc]
      refine AWP.thawIn (Y := X) (.next .here) (fun _ => .head .here) fun K => ?_
      have hb : ((L1.map iA).length + ([iA fb, iA fl]).length) * 8 ≤ 140737488355328 := by have := bndA hl he2; simp at this ⊢; omega
      (repeat refine WF ?_); refine AWP.region ?_; (repeat (first | refine WO ?_ | refine All.i fun X => ?_ | refine AllY.i fun Y => ?_)); refine AOps.nil ?_; (repeat refine WN ?_)
      have hrow : L1.map iA ++ [iA fb, iA fl] = (L1 ++ [fb, fl]).map iA := by first | (rw [List.map_append]; rfl) | rw [List.map_append]
      rw [hrow]
      clear hrow hb
      refine AWP.closeIn (X := Y) (Y := X) .here (.next (.next .here)) rfl (by simp) (.head .here) ?_
      (repeat (first | refine WK ?_ | refine All.i fun X => ?_ | refine AllY.i fun Y => ?_))
      refine lp_next2 (j + 1) _ ⟨h', he2⟩
    · have h' : j = kf.length := by rw [decide_eq_false_iff_not, hkfm] at hd; omega
      rw [h', List.drop_length] at he
      (repeat (first | refine WK ?_ | refine All.i fun X => ?_ | refine AllY.i fun Y => ?_))
      refine lp_next2 (i + 1) L ⟨h, by rw [hT2]; exact he⟩
  clear hin
  have h : i = ks.length := by rw [decide_eq_false_iff_not, hkm] at hc; omega
  rw [h, List.drop_length, ← htail] at he
  clear h hc hi
  have he2 : (L ++ [(gens.length : Int)]) ++ (gens ++ ((items.length : Int) :: items.flatMap itemI)) = R := by rw [← he]; simp
  (repeat first | refine AOps.nil ?_ | refine WF ?_)
  refine AWP.thawIn (Y := X) .here (fun _ => .head .here) fun K => ?_
  have hb : ((L.map iA).length + ([iA ((gens.map iA).length : Int)]).length) * 8 ≤ 140737488355328 := by have := bndA hl he2; simp at this ⊢; omega
  (repeat refine WF ?_); refine AWP.region ?_; (repeat (first | (refine AOps.gN ?_; first | (refine AOps.g_lit ?_; refine AOps.goL (iA (gens.map iA).length) ?_)) | refine WO ?_ | refine All.i fun X => ?_ | refine AllY.i fun Y => ?_)); refine AOps.nil ?_; (repeat refine WN ?_)
  have hrow : L.map iA ++ [iA ((gens.map iA).length : Int)] = (L ++ [(gens.length : Int)]).map iA := by first | (rw [List.map_append, hgm]; rfl) | rw [List.map_append, hgm]
  rw [hrow]
  clear hrow hb
  refine AWP.closeIn (X := Y) (Y := X) .here (.next .here) rfl (by simp) (.head .here) ?_
  obtain ⟨L1, hL1⟩ : ∃ L1, L ++ [(gens.length : Int)] = L1 := ⟨_, rfl⟩
  rw [hL1] at he2 ⊢
  have he3 : (L1 ++ gens) ++ ((items.length : Int) :: items.flatMap itemI) = R := by rw [← he2, List.append_assoc]
  refine AWP.thawIn (Y := X) (.next .here) (fun _ => .head .here) fun K => ?_
  have hb : ((L1.map iA).length + (gens.map iA).length) * 8 ≤ 140737488355328 := by have := bndA hl he3; simp at this ⊢; omega
  (repeat refine WF ?_); refine AWP.region ?_; (repeat (first | refine WO ?_ | refine All.i fun X => ?_ | refine AllY.i fun Y => ?_)); refine AOps.nil ?_; (repeat refine WN ?_)
  have hrow : L1.map iA ++ gens.map iA = (L1 ++ gens).map iA := by first | (rw [List.map_append]; rfl) | rw [List.map_append]
  rw [hrow]
  clear hrow hb
  refine AWP.closeIn (X := Y) (Y := X) .here (.next (.next .here)) rfl (by simp) (.head .here) ?_
  obtain ⟨L2, hL2⟩ : ∃ L2, L1 ++ gens = L2 := ⟨_, rfl⟩
  rw [hL2] at he3 ⊢
  have he4 : (L2 ++ [(items.length : Int)]) ++ items.flatMap itemI = R := by rw [← he3, List.append_assoc]; rfl
  refine AWP.thawIn (Y := X) (.next (.next .here)) (fun _ => .head .here) fun K => ?_
  have hb : ((L2.map iA).length + ([iA ((items.map (itemA false)).length : Int)]).length) * 8 ≤ 140737488355328 := by have := bndA hl he4; simp at this ⊢; omega
  (repeat refine WF ?_); refine AWP.region ?_; (repeat (first | (refine AOps.gN ?_; first | (refine AOps.g_lit ?_; refine AOps.goL (iA (items.map (itemA false)).length) ?_)) | refine WO ?_ | refine All.i fun X => ?_ | refine AllY.i fun Y => ?_)); refine AOps.nil ?_; (repeat refine WN ?_)
  have hrow : L2.map iA ++ [iA ((items.map (itemA false)).length : Int)] = (L2 ++ [(items.length : Int)]).map iA := by first | (rw [List.map_append, him]; rfl) | rw [List.map_append, him]
  rw [hrow]
  clear hrow hb
  refine AWP.closeIn (X := Y) (Y := X) .here (.next (.next (.next .here))) rfl (by simp) (.head .here) ?_
  clear he he2 he3 hL1 hL2 htail hk0 hk1
  (repeat (first | refine WK ?_ | refine All.i fun X => ?_ | refine AllY.i fun Y => ?_))
  refine AWP.lp2 (fun (i : Nat) (L : List Int) => ⟨[(1, .fp (wdA false ⟨ks, gens, items⟩).cells), (3, .ptr X 0 0), (72, itemsA false false items), (73, iA (items.map (itemA false)).length), (74, iA i)], (X, outO L) :: Sf⟩) (fun i L => i ≤ items.length ∧ L ++ (items.drop i).flatMap itemI = R) (fun i _ => items.length - i) 0 (L2 ++ [(items.length : Int)]) ⟨Nat.zero_le _, he4⟩ ?_
  clear he4 L2 L1 L
  rintro i L ⟨hi, he⟩
  (repeat (first | refine WK ?_ | refine All.i fun X => ?_ | refine AllY.i fun Y => ?_))
  refine AWP.cond rfl (fun hc => ?_) (fun hc => ?_)
  · have h : i < items.length := by rw [decide_eq_true_eq, him] at hc; omega
    obtain ⟨⟨⟨en, eg⟩, cs⟩, hit⟩ : ∃ it, items[i] = it := ⟨_, rfl⟩
    have hat : (items.map (itemA false))[i]? = some (itemA false ⟨⟨en, eg⟩, cs⟩) := by rw [List.getElem?_map, List.getElem?_eq_getElem h, hit]; rfl
    have hcl := hi1 _ (hit ▸ List.getElem_mem h)
    dsimp only at hcl
    obtain ⟨hcl0, hcl1⟩ := hcl
    have hcm : (cs.map (compA false)).length = cs.length := List.length_map _
    rw [dropF h hit, itemI] at he
    dsimp only at he
    have he2 : (L ++ [en, eg, (cs.length : Int)]) ++ (cs.flatMap compI ++ (items.drop (i + 1)).flatMap itemI) = R := by rw [← he]; simp
    (repeat refine WF ?_); refine AWP.region ?_; (repeat (first | refine WO ?_ | refine All.i fun V => ?_ | refine AllY.i fun Y => ?_)); refine AOps.nil ?_; (repeat refine WN ?_)
    refine AWP.thawIn (Y := X) (.next .here) (fun _ => .head .here) fun K => ?_
    have hb : ((L.map iA).length + ([iA en, iA eg, iA ((cs.map (compA false)).length : Int)]).length) * 8 ≤ 140737488355328 := by have := bndA hl he2; simp at this ⊢; omega
    (repeat refine WF ?_); refine AWP.region ?_; (repeat (first | refine WO ?_ | refine All.i fun X => ?_ | refine AllY.i fun Y => ?_)); refine AOps.nil ?_; (repeat refine WN ?_)
    have hrow : L.map iA ++ [iA en, iA eg, iA ((cs.map (compA false)).length : Int)] = (L ++ [en, eg, (cs.length : Int)]).map iA := by first | (rw [List.map_append, hcm]; rfl) | rw [List.map_append, hcm]
    rw [hrow]
    clear hrow hb
    refine AWP.closeIn (X := Y) (Y := X) .here (.next (.next .here)) rfl (by simp) (.head .here) ?_
    obtain ⟨T2, hT2⟩ : ∃ T2, (items.drop (i + 1)).flatMap itemI = T2 := ⟨_, rfl⟩
    rw [hT2] at he2
    (repeat (first | refine WK ?_ | refine All.i fun X => ?_ | refine AllY.i fun Y => ?_))
    refine AWP.lp2 (fun (j : Nat) (L : List Int) => ⟨[(1, .fp (wdA false ⟨ks, gens, items⟩).cells), (3, .ptr X 0 0), (72, itemsA false false items), (73, iA (items.map (itemA false)).length), (74, iA i), (91, compsA false false cs), (92, iA (cs.map (compA false)).length), (93, iA j)], (X, outO L) :: Sf⟩) (fun j L => j ≤ cs.length ∧ L ++ ((cs.drop j).flatMap compI ++ T2) = R) (fun j _ => cs.length - j) 0 _ ⟨Nat.zero_le _, he2⟩ ?_
    clear he2 he L
    rintro j L ⟨hj, he⟩
    (repeat (first | refine WK ?_ | refine All.i fun X => ?_ | refine AllY.i fun Y => ?_))
    refine AWP.cond rfl (fun hd => ?_) (fun hd => ?_)
    · have h' : j < cs.length := by rw [decide_eq_true_eq, hcm] at hd; omega
      obtain ⟨⟨ck, cv⟩, hf⟩ : ∃ c, cs[j] = c := ⟨_, rfl⟩
      have hat2 : (cs.map (compA false))[j]? = some (compA false ⟨ck, cv⟩) := by rw [List.getElem?_map, List.getElem?_eq_getElem h', hf]; rfl
      have hvm : (cv.map iA).length = cv.length := List.length_map _
      rw [dropF h' hf, compI] at he
      dsimp only at he
      have he2 : (L ++ [ck, (cv.length : Int)]) ++ (cv ++ ((cs.drop (j + 1)).flatMap compI ++ T2)) = R := by rw [← he]; simp
      (repeat refine WF ?_); refine AWP.region ?_; (repeat (first | refine WO ?_ | refine All.i fun V2 => ?_ | refine AllY.i fun Y => ?_)); refine AOps.nil ?_; (repeat refine WN ?_)
      refine AWP.thawIn (Y := X) (.next .here) (fun _ => .head .here) fun K => ?_
      have hb : ((L.map iA).length + ([iA ck, iA ((cv.map iA).length : Int)]).length) * 8 ≤ 140737488355328 := by have := bndA hl he2; simp at this ⊢; omega
      (repeat refine WF ?_); refine AWP.region ?_; (repeat (first | refine WO ?_ | refine All.i fun X => ?_ | refine AllY.i fun Y => ?_)); refine AOps.nil ?_; (repeat refine WN ?_)
      have hrow : L.map iA ++ [iA ck, iA ((cv.map iA).length : Int)] = (L ++ [ck, (cv.length : Int)]).map iA := by first | (rw [List.map_append, hvm]; rfl) | rw [List.map_append, hvm]
      rw [hrow]
      clear hrow hb
      refine AWP.closeIn (X := Y) (Y := X) .here (.next (.next .here)) rfl (by simp) (.head .here) ?_
      obtain ⟨L1, hL1⟩ : ∃ L1, L ++ [ck, (cv.length : Int)] = L1 := ⟨_, rfl⟩
      rw [hL1] at he2 ⊢
      have he3 : (L1 ++ cv) ++ ((cs.drop (j + 1)).flatMap compI ++ T2) = R := by rw [← he2, List.append_assoc]
      refine AWP.thawIn (Y := X) (.next (.next .here)) (fun _ => .head .here) fun K => ?_
      have hb : ((L1.map iA).length + (cv.map iA).length) * 8 ≤ 140737488355328 := by have := bndA hl he3; simp at this ⊢; omega
      (repeat refine WF ?_); refine AWP.region ?_; (repeat (first | refine WO ?_ | refine All.i fun X => ?_ | refine AllY.i fun Y => ?_)); refine AOps.nil ?_; (repeat refine WN ?_)
      have hrow : L1.map iA ++ cv.map iA = (L1 ++ cv).map iA := by first | (rw [List.map_append]; rfl) | rw [List.map_append]
      rw [hrow]
      clear hrow hb
      refine AWP.closeIn (X := Y) (Y := X) .here (.next (.next (.next .here))) rfl (by simp) (.head .here) ?_
      (repeat (first | refine WK ?_ | refine All.i fun X => ?_ | refine AllY.i fun Y => ?_))
      refine lp_next2 (j + 1) _ ⟨h', he3⟩
    · have h' : j = cs.length := by rw [decide_eq_false_iff_not, hcm] at hd; omega
      rw [h', List.drop_length] at he
      (repeat (first | refine WK ?_ | refine All.i fun X => ?_ | refine AllY.i fun Y => ?_))
      refine lp_next2 (i + 1) L ⟨h, by rw [hT2]; exact he⟩
  · have h : i = items.length := by rw [decide_eq_false_iff_not, him] at hc; omega
    rw [h, List.drop_length] at he
    have he : L = R := by simpa using he
    subst he
    refine AWP.thawIn (Y := X) .here (fun _ => .head .here) fun K => ?_
    (repeat (first | refine WK ?_ | refine All.i fun X => ?_ | refine AllY.i fun Y => ?_))
    (refine AWP.ret ?_; (repeat (first | refine inB_r ?_ | refine andThen_r ?_)); refine retQ_r ?_)
    exact ⟨[.sl K 0 (L.map iA).length], [intsA true L], _, [], .cons (.tmp rfl) rfl .nil, .cons (.cell (.sl (p := 0) .here rfl)) .nil, by exact Sub.f, rfl, rfl⟩
end Go.Proofs.Ytfkppbkipbbmaaa

namespace Go.Proofs.Ytfkppbkipbbmaaa
set_option linter.unusedVariables false
theorem base_wdL : WdL baseWd := by
  refine ⟨⟨by decide, ?_⟩, by decide, ⟨by decide, ?_⟩⟩
  · intro k hk
    rw [List.mem_singleton.1 hk]; decide
  · intro it hit
    rw [List.mem_singleton.1 hit]
    refine ⟨by decide, fun c hc => ?_⟩
    rw [List.mem_singleton.1 hc]; decide
theorem base_get : getOf baseWd ⟨0, 0⟩ 0 = ([9], 0) := by decide
set_option maxRecDepth 4000 in
theorem begun_ps : PS Try.prog 12 [] (bA true) := by
  have hg := get_ps baseWd ⟨0, 0⟩ 0 base_wdL
  rw [base_get] at hg
  have he : PS Try.prog 20 [intsA false [9], intsA false [9]] (bA true) := equalI_ps [9] [9] (by decide)
  have hi := ints_ps baseWd (by decide) base_wdL
  have hs := same_ps baseWd baseWd base_wdL
  rw [decide_eq_true rfl] at hs
  obtain ⟨R, hR⟩ : ∃ R, intsOf baseWd = R := ⟨_, rfl⟩
  have hRl : (0 : Int) < R.length := by rw [← hR]; decide
  rw [hR] at hi
  have hlen : decide ((0 : Int) < (R.map iA).length) = true := decide_eq_true (by rw [List.length_map]; exact hRl)
  refine Spec.of (nt := 27) (res := [.tmp 0]) Try.func12 rfl (by kernel_rfl) rfl rfl rfl fun Sf => ?_
  (repeat refine WF ?_); refine AWP.region ?_; (repeat (first | refine WO ?_ | refine All.i fun X => ?_ | refine AllY.i fun Y => ?_)); refine AOps.nil ?_; (repeat refine WN ?_)
  (repeat refine WF ?_); refine AWP.region ?_; (repeat (first | (refine AOps.gN ?_; first | (refine AOps.g_callf ?_; first | refine AOps.c0 (h := (base_ps ..)) (k := ?_) | refine AOps.c3 (h := (hg ..)) (k := ?_))) | refine WO ?_ | refine All.i fun X => ?_ | refine AllY.i fun Y => ?_)); refine AOps.nil ?_; (repeat refine WN ?_)
  (repeat (first | (refine AOps.gN ?_; first | (refine AOps.g_callf ?_; first | refine AOps.c2 (h := (he ..)) (k := ?_) | refine AOps.c0 (h := (base_ps ..)) (k := ?_) | refine AOps.c1 (h := (hi ..)) (k := ?_) | refine AOps.c2 (h := (hs ..)) (k := ?_))) | refine WK ?_ | refine All.i fun X => ?_ | refine AllY.i fun Y => ?_))
  (refine AWP.ret ?_; (repeat (first | refine inB_r ?_ | refine andThen_r ?_)); refine retQ_r ?_); refine Ends.ps ?_
  rfl
end Go.Proofs.Ytfkppbkipbbmaaa

namespace Go.Proofs.Ytfkppbkipbbmaaa
set_option linter.unusedVariables false
/-- Has some item the slot n? -/
def usedB (l : List Item) (n : Int) : Bool := l.any fun it => decide (it.ent.n = n)
/-- The first free slot. -/
def freeN (w : Wd) : Option Nat := (List.range w.gens.length).find? fun n => !usedB w.items n && decide (w.gens.getD n 0 < 1073741824)
def freeOf (w : Wd) : Nat × Bool := match freeN w with
  | some n => (n, true)
  | none => (w.gens.length, decide ((w.gens.length : Int) < 256))
def useL (l : List Item) (n : Nat) : List Bool := (List.range n).map fun (j : Nat) => usedB l j
theorem useL_len (l : List Item) (n : Nat) : (useL l n).length = n := by simp [useL]
theorem useL_at {l : List Item} {n j : Nat} (h : j < n) : ((useL l n).map bA)[j]? = some (bA (usedB l j)) := by
  simp [useL, h]
theorem usedB_take {l : List Item} {i : Nat} (h : i < l.length) (n : Int) : usedB (l.take (i + 1)) n = (usedB (l.take i) n || decide (l[i].ent.n = n)) := by
  unfold usedB
  rw [List.take_succ_eq_append_getElem h, List.any_append]
  simp
theorem useL_set {l : List Item} {i n j : Nat} (h : i < l.length) (e : l[i].ent.n = (j : Int)) : ((useL (l.take i) n).map bA).set j (bA true) = (useL (l.take (i + 1)) n).map bA := by
  rw [← List.map_set]
  congr 1
  apply List.ext_getElem (by simp [useL])
  intro q h1 h2
  rw [List.getElem_set]
  simp only [useL, List.getElem_map, List.getElem_range]
  rw [usedB_take h, e]
  by_cases hq : j = q
  · subst hq; simp
  · rw [if_neg hq, decide_eq_false (p := (j : Int) = q) (by omega), Bool.or_false]
theorem useL_same {l : List Item} {i n : Nat} (h : i < l.length) (e : ∀ j < n, l[i].ent.n ≠ (j : Nat)) : useL (l.take i) n = useL (l.take (i + 1)) n := by
  apply List.ext_getElem (by simp [useL])
  intro q h1 h2
  simp only [useL, List.getElem_map, List.getElem_range]
  rw [usedB_take h, decide_eq_false (e q (by simpa [useL] using h1)), Bool.or_false]
set_option maxRecDepth 4000 in
theorem free_ps (w : Wd) (hg : w.gens.length ≤ 1099511627776) (hi : w.items.length ≤ 1099511627776) : PS Try.prog 13 [wdA false w] (.tup [iA (freeOf w).1, bA (freeOf w).2]) := by
  obtain ⟨ks, gens, items⟩ := w
  dsimp only at hg hi
  have hgm : (gens.map iA).length = gens.length := List.length_map _
  have him : (items.map (itemA false)).length = items.length := List.length_map _
  have hz0 : List.replicate (gens.map iA).length (bA false) = (useL (items.take 0) gens.length).map bA := by
    rw [hgm]
    apply List.ext_getElem (by simp [useL])
    intro q h1 h2
    simp [useL, usedB]
  have hfr : ∀ j, (∀ q < j, (!usedB items (q : Nat) && decide (gens.getD q 0 < 1073741824)) = false) → j < gens.length → (!usedB items (j : Nat) && decide (gens.getD j 0 < 1073741824)) = true → freeOf ⟨ks, gens, items⟩ = (j, true) := by
    intro j h1 h2 h3
    have : freeN ⟨ks, gens, items⟩ = some j := by
      unfold freeN
      rw [List.find?_eq_some_iff_getElem]
      exact ⟨h3, j, by simpa using h2, by simp, fun q hq => by have := h1 q hq; simp only [List.getElem_range]; rw [this]; rfl⟩
    unfold freeOf
    rw [this]
  have hfn : (∀ q < gens.length, (!usedB items (q : Nat) && decide (gens.getD q 0 < 1073741824)) = false) → freeOf ⟨ks, gens, items⟩ = (gens.length, decide ((gens.length : Int) < 256)) := by
    intro h1
    have : freeN ⟨ks, gens, items⟩ = none := by
      unfold freeN
      rw [List.find?_eq_none]
      intro q hq
      have := h1 q (by simpa using hq)
      rw [this]; simp
    unfold freeOf
    rw [this]
  refine Spec.of (nt := 64) (res := [.tmp 2, .tmp 3]) Try.func13 rfl (by kernel_rfl) rfl rfl rfl fun Sf => ?_
  (repeat refine WF ?_); refine AWP.region ?_; (repeat (first | (refine AOps.gN ?_; first | (refine AOps.g_box ?_; refine AOps.goB ?_)) | refine WO ?_ | refine All.i fun X => ?_ | refine AllY.i fun Y => ?_)); refine AOps.nil ?_; (repeat refine WN ?_)
  (repeat (first | (refine AOps.gN ?_; first | (refine AOps.g_make ?_; refine AOps.goM (bA false) fun K => ?_)) | refine WK ?_ | refine All.i fun K => ?_ | refine AllY.i fun Y => ?_))
  rw [hz0]
  refine AWP.lp2 (fun (i : Nat) (M : List AV) => ⟨[(1, .fp (wdA false ⟨ks, gens, items⟩).cells), (4, .sl K 0 (gens.map iA).length), (14, itemsA false false items), (15, iA (items.map (itemA false)).length), (16, iA i)], (K, .row 4 1 M) :: Sf⟩) (fun i M => i ≤ items.length ∧ M = (useL (items.take i) gens.length).map bA) (fun i _ => items.length - i) 0 _ ⟨Nat.zero_le _, rfl⟩ ?_
  rintro i M ⟨hil, hM⟩
  have hMl : M.length = gens.length := by rw [hM, List.length_map, useL_len]
  (repeat (first | refine WK ?_ | refine All.i fun X => ?_ | refine AllY.i fun Y => ?_))
  refine AWP.cond rfl (fun hc => ?_) (fun hc => ?_)
  · have h : i < items.length := by rw [decide_eq_true_eq, him] at hc; omega
    obtain ⟨⟨⟨en, eg⟩, cs⟩, hit⟩ : ∃ it, items[i] = it := ⟨_, rfl⟩
    have hat : (items.map (itemA false))[i]? = some (itemA false ⟨⟨en, eg⟩, cs⟩) := by rw [List.getElem?_map, List.getElem?_eq_getElem h, hit]; rfl
    (repeat (first | refine WK ?_ | refine All.i fun V => ?_ | refine AllY.i fun Y => ?_))
    rcases Bool.eq_false_or_eq_true (decide ((0 : Int) ≤ en)) with g1 | g1
    · obtain ⟨n, rfl⟩ : ∃ n : Nat, en = n := ⟨en.toNat, by rw [decide_eq_true_eq] at g1; omega⟩
      rcases Bool.eq_false_or_eq_true (decide ((n : Int) < ((gens.map iA).length : Nat))) with g2 | g2
      · have hng : n < gens.length := by rw [decide_eq_true_eq, hgm] at g2; omega
        have hMat : M[n]? = some (bA (usedB (items.take i) n)) := by rw [hM]; exact useL_at hng
        have hlt : n < (gens.map iA).length := by omega
        (repeat (first | refine WK ?_ | refine All.i fun X => ?_ | refine AllY.i fun Y => ?_))
        refine AWP.cond_t rfl (by first | rfl | assumption) ?_
        (repeat (first | refine WK ?_ | refine All.i fun X => ?_ | refine AllY.i fun Y => ?_))
        refine lp_next2 (i + 1) _ ⟨h, ?_⟩
        rw [hM]
        exact useL_set h (by rw [hit])
      · (repeat (first | refine WK ?_ | refine All.i fun X => ?_ | refine AllY.i fun Y => ?_))
        refine AWP.cond_f rfl (by first | rfl | assumption) ?_
        (repeat (first | refine WK ?_ | refine All.i fun X => ?_ | refine AllY.i fun Y => ?_))
        refine lp_next2 (i + 1) M ⟨h, ?_⟩
        rw [hM, useL_same h fun j hj => by rw [hit]; rw [decide_eq_false_iff_not, hgm] at g2; show (n : Int) ≠ j; omega]
    · (repeat (first | refine WK ?_ | refine All.i fun X => ?_ | refine AllY.i fun Y => ?_))
      refine AWP.cond_f rfl (by show (decide ((0 : Int) ≤ en) && _) = false; rw [g1]; rfl) ?_
      (repeat (first | refine WK ?_ | refine All.i fun X => ?_ | refine AllY.i fun Y => ?_))
      refine lp_next2 (i + 1) M ⟨h, ?_⟩
      rw [hM, useL_same h fun j hj => by rw [hit]; rw [decide_eq_false_iff_not] at g1; show en ≠ j; omega]
  · have h : i = items.length := by rw [decide_eq_false_iff_not, him] at hc; omega
    rw [h, List.take_length] at hM
    clear hz0 hc hil h
    (repeat (first | refine WK ?_ | refine All.i fun X => ?_ | refine AllY.i fun Y => ?_))
    refine AWP.lp (fun (j : Nat) => ⟨[(1, .fp (wdA false ⟨ks, gens, items⟩).cells), (4, .sl K 0 (gens.map iA).length), (39, intsA false gens), (40, iA (gens.map iA).length), (41, iA j)], (K, .row 4 1 M) :: Sf⟩) (fun j => j ≤ gens.length ∧ ∀ q < j, (!usedB items (q : Nat) && decide (gens.getD q 0 < 1073741824)) = false) (fun j => gens.length - j) 0 ⟨Nat.zero_le _, fun q hq => absurd hq (by omega)⟩ ?_
    rintro j ⟨hj, hall⟩
    (repeat (first | refine WK ?_ | refine All.i fun X => ?_ | refine AllY.i fun Y => ?_))
    refine AWP.cond rfl (fun hc => ?_) (fun hc => ?_)
    · have h : j < gens.length := by rw [decide_eq_true_eq, hgm] at hc; omega
      have hjm : j < (gens.map iA).length := by omega
      obtain ⟨x, hx⟩ : ∃ x, gens[j] = x := ⟨_, rfl⟩
      have hat : (gens.map iA)[j]? = some (iA x) := by rw [List.getElem?_map, List.getElem?_eq_getElem h, hx]; rfl
      have hMat : M[j]? = some (bA (usedB items j)) := by rw [hM]; exact useL_at h
      have hgd : gens.getD j 0 = x := by simp [List.getD_eq_getElem?_getD, List.getElem?_eq_getElem h, hx]
      (repeat (first | refine WK ?_ | refine All.i fun X => ?_ | refine AllY.i fun Y => ?_))
      refine AWP.cond rfl (fun he => ?_) (fun he => ?_)
      · rw [hfr j hall h (by rw [hgd]; exact he)]
        (repeat (first | refine WK ?_ | refine All.i fun X => ?_ | refine AllY.i fun Y => ?_))
        (refine AWP.ret ?_; (repeat (first | refine inB_r ?_ | refine andThen_r ?_)); refine retQ_r ?_)
        exact ⟨[iA j, bA true], [iA j, bA true], _, [], .cons (.tmp rfl) rfl (.cons (.tmp rfl) rfl .nil), .cons (.cell .same) (.cons (.cell .same) .nil), by exact Sub.f, rfl, rfl⟩
      · (repeat (first | refine WK ?_ | refine All.i fun X => ?_ | refine AllY.i fun Y => ?_))
        refine lp_next (j + 1) ⟨h, fun q hq => ?_⟩
        by_cases e : q = j
        · subst e; rw [hgd]; exact he
        · exact hall q (by omega)
    · have h : j = gens.length := by rw [decide_eq_false_iff_not, hgm] at hc; omega
      rw [h] at hall
      rw [hfn hall, ← hgm]
      (repeat first | refine AOps.nil ?_ | refine WF ?_)
      (repeat refine WF ?_); refine AWP.region_run (by kernel_rfl) (by kernel_rfl) ?_; (repeat (first | refine RK ?_ | refine RGo.nil (by kernel_rfl) ?_))
      (refine AWP.ret ?_; (repeat (first | refine inB_r ?_ | refine andThen_r ?_)); refine retQ_r ?_)
      exact ⟨[iA (gens.map iA).length, bA (decide (((gens.map iA).length : Int) < 256))], [iA (gens.map iA).length, bA (decide (((gens.map iA).length : Int) < 256))], _, [], .cons (.tmp rfl) rfl (.cons (.tmp rfl) rfl .nil), .cons (.cell .same) (.cons (.cell .same) .nil), by exact Sub.f, rfl, rfl⟩
end Go.Proofs.Ytfkppbkipbbmaaa

namespace Go.Proofs.Ytfkppbkipbbmaaa
set_option linter.unusedSimpArgs false
set_option linter.unusedVariables false

theorem genFields_len (i c : Nat) (l : List Int) : (genFields i c l).1.length = c := by
  induction c generalizing i l with
  | zero => rfl
  | succ c ih => simp [genFields, ih]
theorem genFields_names (i c : Nat) (l : List Int) : (genFields i c l).1.map (·.name) = (List.range' i c).map fieldName := by
  induction c generalizing i l with
  | zero => rfl
  | succ c ih =>
    have : (genField i l).1.name = fieldName i := by unfold genField; split <;> rfl
    simp [genFields, ih, List.range'_succ, this]
theorem genKindsFrom_len (k c : Nat) (l : List Int) : (genKindsFrom k c l).1.length = c := by
  induction c generalizing k l with
  | zero => rfl
  | succ c ih => simp [genKindsFrom, ih]
theorem genKindsFrom_names (k c : Nat) (l : List Int) : (genKindsFrom k c l).1.map (·.name) = (List.range' k c).map kindName := by
  induction c generalizing k l with
  | zero => rfl
  | succ c ih => simp [genKindsFrom, ih, List.range'_succ, genKind]

theorem fieldName_ok (i : Nat) : nameOk (fieldName i) = true := by
  unfold fieldName
  split <;> decide
theorem kindName_ok (i : Nat) : nameOk (kindName i) = true := by
  unfold kindName
  split <;> decide
theorem genField_ok (i : Nat) (l : List Int) : fieldErr (genField i l).1 = 0 := by
  have h1 := nextV_range l (n := 9) (by omega)
  have h2 := nextV_range (nextL l 9) (n := 40) (by omega)
  unfold genField
  split
  · simp [fieldErr, fieldName_ok]
  · simp [fieldErr, fieldName_ok]
    omega
theorem genFields_ok (i c : Nat) (l : List Int) : ∀ f ∈ (genFields i c l).1, fieldErr f = 0 := by
  induction c generalizing i l with
  | zero => intro f h; simp [genFields] at h
  | succ c ih =>
    intro f h
    simp only [genFields, List.mem_cons] at h
    rcases h with rfl | h
    · exact genField_ok i l
    · exact ih _ _ f h

theorem fieldsErr_nil0 : ∀ (fs pre : List Field), (∀ f ∈ fs, fieldErr f = 0) → ((pre ++ fs).map (·.name)).Nodup → fieldsErr pre fs = 0 := by
  intro fs
  induction fs with
  | nil => intro pre _ _; rfl
  | cons f fs ih =>
    intro pre h hn
    have h1 := h f (by simp)
    have h2 : pre.any (fun o => o.name == f.name) = false := by
      rw [List.any_eq_false]
      intro o ho
      simp only [beq_iff_eq]
      intro e
      rw [List.map_append, List.nodup_append] at hn
      exact hn.2.2 o.name (List.mem_map_of_mem ho) f.name (by simp) e
    simp only [fieldsErr, h1, h2]
    simp
    exact ih _ (fun x hx => h x (by simp [hx])) (by simpa using hn)
theorem kindsErr_zero : ∀ (ks pre : List Kind), (∀ k ∈ ks, oneErr k = 0) → ((pre ++ ks).map (·.name)).Nodup → kindsErr pre ks = 0 := by
  intro fs
  induction fs with
  | nil => intro pre _ _; rfl
  | cons f fs ih =>
    intro pre h hn
    have h1 := h f (by simp)
    have h2 : pre.any (fun o => o.name == f.name) = false := by
      rw [List.any_eq_false]
      intro o ho
      simp only [beq_iff_eq]
      intro e
      rw [List.map_append, List.nodup_append] at hn
      exact hn.2.2 o.name (List.mem_map_of_mem ho) f.name (by simp) e
    simp only [kindsErr, h1, h2]
    simp
    exact ih _ (fun x hx => h x (by simp [hx])) (by simpa using hn)
theorem kindsErr_dup : ∀ (ks pre : List Kind) (x : Kind), (∀ k ∈ ks, oneErr k = 0) → oneErr x = 0 → ((pre ++ ks).map (·.name)).Nodup → x.name ∈ (pre ++ ks).map (·.name) → kindsErr pre (ks ++ [x]) = 5 := by
  intro fs
  induction fs with
  | nil =>
    intro pre x _ hx hn hm
    have h2 : pre.any (fun o => o.name == x.name) = true := by
      rw [List.append_nil] at hm
      obtain ⟨o, ho, e⟩ := List.mem_map.1 hm
      exact List.any_eq_true.2 ⟨o, ho, by simp [e]⟩
    simp only [List.nil_append, kindsErr, hx, h2]
    simp
  | cons f fs ih =>
    intro pre x h hx hn hm
    have h1 := h f (by simp)
    have h2 : pre.any (fun o => o.name == f.name) = false := by
      rw [List.any_eq_false]
      intro o ho
      simp only [beq_iff_eq]
      intro e
      rw [List.map_append, List.nodup_append] at hn
      exact hn.2.2 o.name (List.mem_map_of_mem ho) f.name (by simp) e
    simp only [List.cons_append, kindsErr, h1, h2]
    simp
    exact ih _ x (fun x hx => h x (by simp [hx])) hx (by simpa using hn) (by simpa using hm)

theorem fieldNames_nodup {c : Nat} (h : c ≤ 3) : ((List.range' 0 c).map fieldName).Nodup := by
  have : c = 0 ∨ c = 1 ∨ c = 2 ∨ c = 3 := by omega
  rcases this with rfl | rfl | rfl | rfl <;> decide
theorem kindNames_nodup {c : Nat} (h : c ≤ 4) : ((List.range' 0 c).map kindName).Nodup := by
  have : c = 0 ∨ c = 1 ∨ c = 2 ∨ c = 3 ∨ c = 4 := by omega
  rcases this with rfl | rfl | rfl | rfl | rfl <;> decide
theorem genKind_ok (k : Nat) (l : List Int) : oneErr (genKind k l).1 = 0 := by
  have h1 := nextV_range l (n := 3) (by omega)
  have h2 : (1 + nextV l 3).toNat ≤ 3 := by omega
  have h3 := fieldsErr_nil0 (genFields 0 (1 + nextV l 3).toNat (nextL l 3)).1 [] (genFields_ok _ _ _) (by
    rw [List.nil_append, genFields_names]
    exact fieldNames_nodup h2)
  have h4 := genFields_len 0 (1 + nextV l 3).toNat (nextL l 3)
  unfold oneErr genKind
  simp only [kindName_ok, h3, h4, if_true]
  rw [if_neg (by omega)]
theorem genKindsFrom_ok (i c : Nat) (l : List Int) : ∀ f ∈ (genKindsFrom i c l).1, oneErr f = 0 := by
  induction c generalizing i l with
  | zero => intro f h; simp [genKindsFrom] at h
  | succ c ih =>
    intro f h
    simp only [genKindsFrom, List.mem_cons] at h
    rcases h with rfl | h
    · exact genKind_ok i l
    · exact ih _ _ f h
theorem genKinds_len (l : List Int) : 1 ≤ (genKinds l).1.length ∧ (genKinds l).1.length ≤ 4 := by
  have h := nextV_range l (n := 4) (by omega)
  unfold genKinds
  rw [genKindsFrom_len]
  omega
theorem genKinds_nodup (l : List Int) : ((genKinds l).1.map (·.name)).Nodup := by
  have h := nextV_range l (n := 4) (by omega)
  unfold genKinds
  rw [genKindsFrom_names]
  exact kindNames_nodup (by omega)
theorem genKinds_ok (l : List Int) : ∀ k ∈ (genKinds l).1, oneErr k = 0 := genKindsFrom_ok _ _ _
theorem genKinds_check (l : List Int) : checkErr (genKinds l).1 = 0 := by
  unfold checkErr
  have := genKinds_len l
  rw [if_neg (by omega)]
  exact kindsErr_zero _ [] (genKinds_ok l) (genKinds_nodup l)
theorem genKinds_twice (l : List Int) {i : Nat} (hi : i < (genKinds l).1.length) : checkErr ((genKinds l).1 ++ [(genKinds l).1[i]]) = 5 := by
  unfold checkErr
  have := genKinds_len l
  rw [if_neg (by simp; omega)]
  exact kindsErr_dup _ [] _ (genKinds_ok l) (genKinds_ok l _ (List.getElem_mem hi)) (genKinds_nodup l) (List.mem_map_of_mem (List.getElem_mem hi))
theorem find_nodup {ks : List Kind} (h : (ks.map (·.name)).Nodup) {i : Nat} (hi : i < ks.length) : findKind ks ks[i].name = i := by
  refine findKind_some hi rfl fun j hj e => ?_
  have h2 := (List.pairwise_iff_getElem.1 h) j i (by simp; omega) (by simpa using hi) hj
  exact h2 (by simpa using e)
end Go.Proofs.Ytfkppbkipbbmaaa

namespace Go.Proofs.Ytfkppbkipbbmaaa
set_option linter.unusedVariables false
theorem near_low {f : Field} (h : fieldErr f = 0) (v : Int) : f.low ≤ nearOf f v ∧ nearOf f v ≤ highOf f := by
  have := highOf_bd h
  unfold nearOf
  rw [if_pos h]
  omega
theorem near_in {f : Field} (h : fieldErr f = 0) {v : Int} (h1 : f.low ≤ v) (h2 : v ≤ highOf f) : nearOf f v = v := by
  unfold nearOf
  rw [if_pos h]
  omega
theorem near_near {f : Field} (h : fieldErr f = 0) (v : Int) : nearOf f (nearOf f v) = nearOf f v := near_in h (near_low h v).1 (near_low h v).2
theorem near_fits {fs : List Field} (h : ∀ f ∈ fs, fieldErr f = 0) (vals : List Int) : List.zipWith nearOf fs (List.zipWith nearOf fs vals) = List.zipWith nearOf fs vals := by
  induction fs generalizing vals with
  | nil => rfl
  | cons f fs ih =>
    cases vals with
    | nil => rfl
    | cons v vals => simp [near_near (h f (by simp)), ih (fun x hx => h x (by simp [hx]))]
theorem fitOf_ok {k : Kind} (h : oneErr k = 0) {vals : List Int} (hl : vals.length = k.fields.length) : fitOf k vals = (List.zipWith nearOf k.fields vals, 0) := by
  unfold fitOf
  rw [if_neg (by simp [h]), if_neg (by simp [hl])]
theorem genKind_fields (k : Nat) (l : List Int) : (∀ f ∈ (genKind k l).1.fields, fieldErr f = 0) ∧ (genKind k l).1.fields.length ≤ 3 := by
  have h1 := nextV_range l (n := 3) (by omega)
  refine ⟨genFields_ok _ _ _, ?_⟩
  show (genFields _ _ _).1.length ≤ 3
  rw [genFields_len]
  omega
theorem genKindsFrom_fields (i c : Nat) (l : List Int) : ∀ k ∈ (genKindsFrom i c l).1, (∀ f ∈ k.fields, fieldErr f = 0) ∧ k.fields.length ≤ 3 := by
  induction c generalizing i l with
  | zero => intro f h; simp [genKindsFrom] at h
  | succ c ih =>
    intro f h
    simp only [genKindsFrom, List.mem_cons] at h
    rcases h with rfl | h
    · exact genKind_fields i l
    · exact ih _ _ f h
theorem genKinds_fields (l : List Int) : ∀ k ∈ (genKinds l).1, (∀ f ∈ k.fields, fieldErr f = 0) ∧ k.fields.length ≤ 3 := genKindsFrom_fields _ _ _
end Go.Proofs.Ytfkppbkipbbmaaa

namespace Go.Proofs.Ytfkppbkipbbmaaa
set_option linter.unusedSimpArgs false
set_option linter.unusedVariables false
/-- The values for the first i fields. -/
def vAt (fs : List Field) (l : List Int) : Nat → List Int × List Int
  | 0 => ([], l)
  | i + 1 => match fs[i]? with
    | some f => ((vAt fs l i).1 ++ [f.low + nextV (vAt fs l i).2 (2 ^ f.bits.toNat)], nextL (vAt fs l i).2 (2 ^ f.bits.toNat))
    | none => vAt fs l i
/-- The components of the first i kinds. -/
def cAt (ks : List Kind) (l : List Int) : Nat → List Comp × List Int
  | 0 => ([], l)
  | i + 1 => match ks[i]? with
    | some k => if nextV (cAt ks l i).2 3 = 2 then ((cAt ks l i).1, nextL (cAt ks l i).2 3)
      else ((cAt ks l i).1 ++ [⟨i, (vAt k.fields (nextL (cAt ks l i).2 3) k.fields.length).1⟩], (vAt k.fields (nextL (cAt ks l i).2 3) k.fields.length).2)
    | none => cAt ks l i
def genComps (ks : List Kind) (l : List Int) : List Comp × List Int := cAt ks l ks.length
/-- The generations and items of the first i slots. -/
def wAt (ks : List Kind) (l : List Int) : Nat → List Int × List Item × List Int
  | 0 => ([], [], l)
  | i + 1 =>
    if nextV (nextL (wAt ks l i).2.2 3) 4 = 3 ∨ (wAt ks l i).2.1.length = 8 then ((wAt ks l i).1 ++ [nextV (wAt ks l i).2.2 3], (wAt ks l i).2.1, nextL (nextL (wAt ks l i).2.2 3) 4)
    else ((wAt ks l i).1 ++ [nextV (wAt ks l i).2.2 3], (wAt ks l i).2.1 ++ [⟨⟨i, nextV (wAt ks l i).2.2 3⟩, (genComps ks (nextL (nextL (wAt ks l i).2.2 3) 4)).1⟩], (genComps ks (nextL (nextL (wAt ks l i).2.2 3) 4)).2)
def genWorld (l : List Int) : Wd :=
  ⟨(genKinds l).1, (wAt (genKinds l).1 (nextL (genKinds l).2 12) (nextV (genKinds l).2 12).toNat).1, (wAt (genKinds l).1 (nextL (genKinds l).2 12) (nextV (genKinds l).2 12).toNat).2.1⟩
/-- Fields whose values are small numbers. -/
def FieldOK (f : Field) : Prop := 0 ≤ f.bits ∧ f.bits ≤ 32 ∧ -2147483648 ≤ f.low ∧ f.low ≤ 2147483648
def KindsOK (ks : List Kind) : Prop := ks.length ≤ 1099511627776 ∧ ∀ k ∈ ks, k.fields.length ≤ 1099511627776 ∧ ∀ f ∈ k.fields, FieldOK f
end Go.Proofs.Ytfkppbkipbbmaaa

namespace Go.Proofs.Ytfkppbkipbbmaaa
set_option linter.unusedVariables false
theorem vAt_len (fs : List Field) (l : List Int) (i : Nat) : (vAt fs l i).1.length ≤ i := by
  induction i with
  | zero => simp [vAt]
  | succ i ih => rw [vAt]; split <;> (try simp only [List.length_append, List.length_singleton]) <;> omega
theorem cAt_len (ks : List Kind) (l : List Int) (i : Nat) : (cAt ks l i).1.length ≤ i := by
  induction i with
  | zero => simp [cAt]
  | succ i ih => rw [cAt]; split <;> (try split) <;> (try simp only [List.length_append, List.length_singleton]) <;> omega
theorem vAt_next {fs : List Field} {l : List Int} {i : Nat} (h : i < fs.length) : vAt fs l (i + 1) = ((vAt fs l i).1 ++ [fs[i].low + nextV (vAt fs l i).2 (2 ^ fs[i].bits.toNat)], nextL (vAt fs l i).2 (2 ^ fs[i].bits.toNat)) := by
  rw [vAt, List.getElem?_eq_getElem h]
theorem cAt_no {ks : List Kind} {l : List Int} {i : Nat} (h : i < ks.length) (h2 : nextV (cAt ks l i).2 3 = 2) : cAt ks l (i + 1) = ((cAt ks l i).1, nextL (cAt ks l i).2 3) := by
  rw [cAt, List.getElem?_eq_getElem h]; simp only; rw [if_pos h2]
theorem cAt_yes {ks : List Kind} {l : List Int} {i : Nat} (h : i < ks.length) (h2 : nextV (cAt ks l i).2 3 ≠ 2) : cAt ks l (i + 1) = ((cAt ks l i).1 ++ [⟨i, (vAt ks[i].fields (nextL (cAt ks l i).2 3) ks[i].fields.length).1⟩], (vAt ks[i].fields (nextL (cAt ks l i).2 3) ks[i].fields.length).2) := by
  rw [cAt, List.getElem?_eq_getElem h]; simp only; rw [if_neg h2]
theorem pow_small {b : Nat} (h : b ≤ 32) : (1 : Int) ≤ 2 ^ b ∧ (2 : Int) ^ b ≤ 4294967296 := by
  have h1 : (2 : Nat) ^ b ≤ 2 ^ 32 := Nat.pow_le_pow_right (by decide) h
  have h2 : 0 < (2 : Nat) ^ b := Nat.pow_pos (by decide)
  have h3 : ((2 : Int) ^ b) = (((2 : Nat) ^ b : Nat) : Int) := by simp
  rw [h3]
  have : (2 : Nat) ^ 32 = 4294967296 := by decide
  omega
theorem comps_po (G : Nat) (ks : List Kind) (l : List Int) (hk : KindsOK ks) : PO Try.prog 45 [kindsA false false ks, .ptr G 0 0] G (streamO l) (compsA true false (genComps ks l).1) (streamO (genComps ks l).2) := by
  refine Spec.of (nt := 50) (res := [.tmp 4]) Try.func45 rfl (by kernel_rfl) rfl rfl rfl fun Sf => ?_
  obtain ⟨hk0, hk1⟩ := hk
  (repeat refine WF ?_); refine AWP.region ?_; (repeat (first | refine WO ?_ | refine All.i fun X => ?_ | refine AllY.i fun Y => ?_)); refine AOps.nil ?_; (repeat refine WN ?_)
  (repeat refine WF ?_); refine AWP.region ?_; (repeat (first | refine WO ?_ | refine All.i fun X => ?_ | refine AllY.i fun Y => ?_)); refine AOps.nil ?_; (repeat refine WN ?_)
  (repeat refine WF ?_); refine AWP.region ?_; (repeat (first | refine WO ?_ | refine All.i fun X => ?_ | refine AllY.i fun Y => ?_)); refine AOps.nil ?_; (repeat refine WN ?_)
  (repeat first | refine AOps.nil ?_ | refine WF ?_)
  refine AWP.adopt (d := 5) 141 2 rfl fun K => ?_
  refine AWP.lp5 (fun (i K : Nat) (M : List AV) (n : Nat) (q : List Int) => ⟨[(1, .ptr G 0 0), (5, .sl K 0 n), (11, kindsA false false ks), (12, iA (ks.map (kindA false)).length), (13, iA i)], (K, .row 141 2 M) :: (G, streamO q) :: Sf⟩) (fun i _ M n q => i ≤ ks.length ∧ M = (cAt ks l i).1.map (compA false) ∧ n = M.length ∧ q = (cAt ks l i).2) (fun i _ _ _ _ => ks.length - i) 0 K [] 0 l ⟨Nat.zero_le _, rfl, rfl, rfl⟩ ?_
  rintro i K M n q ⟨hi, hM, hn, hq⟩
  (repeat (first | refine WK ?_ | refine All.i fun X => ?_ | refine AllY.i fun Y => ?_))
  refine AWP.cond rfl (fun hc => ?_) (fun hc => ?_)
  · have h : i < ks.length := by simpa using hc
    obtain ⟨hf0, hf1⟩ := hk1 _ (List.getElem_mem h)
    have h3 := nextV_range q (n := 3) (by decide)
    have hn1 : n + 1 ≤ 1099511627776 := by have := cAt_len ks l i; rw [hn, hM, List.length_map]; omega
    (repeat (first | (refine AOps.gN ?_; first | (refine AOps.g_callf ?_; first | refine AOps.o2 (h := (next_po G _ _ (by decide))) (k := ?_))) | refine WK ?_ | refine All.i fun X => ?_ | refine AllY.i fun Y => ?_))
    refine AWP.cond rfl (fun he => ?_) (fun he => ?_)
    · have he : nextV q 3 = 2 := by simpa using he
      (repeat (first | refine WK ?_ | refine All.i fun X => ?_ | refine AllY.i fun Y => ?_))
      refine lp_next5 (i + 1) K M n _ ⟨h, ?_, hn, ?_⟩
      · rw [cAt_no h (hq ▸ he), hM]
      · rw [cAt_no h (hq ▸ he), hq]
    · have he : nextV q 3 ≠ 2 := by simpa using he
      (repeat refine WF ?_); refine AWP.region ?_; (repeat (first | refine WO ?_ | refine All.i fun Y => ?_ | refine AllY.i fun Y => ?_)); refine AOps.nil ?_; (repeat refine WN ?_)
      refine AWP.adoptIn (Y := Y) 3 1 .here (fun F => .cons (.agg (.cons .same (.cons (.base .nil) .nil))) .nil) fun F => ?_
      (repeat (first | refine WK ?_ | refine All.i fun X => ?_ | refine AllY.i fun Y => ?_))
      obtain ⟨fs, hfs⟩ : ∃ fs, ks[i].fields = fs := ⟨_, rfl⟩
      obtain ⟨q1, hq1⟩ : ∃ q1, nextL q 3 = q1 := ⟨_, rfl⟩
      rw [hq1, hfs]
      have hck : cAt ks l (i + 1) = ((cAt ks l i).1 ++ [⟨i, (vAt fs q1 fs.length).1⟩], (vAt fs q1 fs.length).2) := by rw [cAt_yes h (hq ▸ he), ← hq, hq1, hfs]
      rw [hfs] at hf0 hf1
      refine AWP.lp5 (fun (j F : Nat) (L : List AV) (m : Nat) (r : List Int) => ⟨[(1, .ptr G 0 0), (5, .sl K 0 n), (6, iA i), (8, .ptr Y 0 0), (11, kindsA false false ks), (12, iA (ks.map (kindA false)).length), (13, iA i), (24, fieldsA false fs), (25, iA (fs.map fieldA).length), (26, iA j)], (F, .row 3 1 L) :: (Y, .row 141 2 [.agg [iA i, .sl F 0 m]]) :: (K, .row 141 2 M) :: (G, streamO r) :: Sf⟩) (fun j _ L m r => j ≤ fs.length ∧ L = (vAt fs q1 j).1.map iA ∧ m = L.length ∧ r = (vAt fs q1 j).2) (fun j _ _ _ _ => fs.length - j) 0 F [] 0 q1 ⟨Nat.zero_le _, rfl, rfl, rfl⟩ ?_
      rintro j F L m r ⟨hj, hL, hm, hr⟩
      (repeat (first | refine WK ?_ | refine All.i fun X => ?_ | refine AllY.i fun Y => ?_))
      refine AWP.cond rfl (fun hd => ?_) (fun hd => ?_)
      · have hj' : j < fs.length := by simpa using hd
        obtain ⟨hb0, hb1, hl0, hl1⟩ := hf1 _ (List.getElem_mem hj')
        obtain ⟨b, hb⟩ : ∃ b : Nat, fs[j].bits = b := ⟨fs[j].bits.toNat, by omega⟩
        have hp := pow_small (b := b) (by omega)
        have hw : IntKind.i64.wrap (1 * 2 ^ b) = 2 ^ b := by rw [Int.one_mul]; exact wrap_id (by omega) (by omega)
        have hv := nextV_range r (n := IntKind.i64.wrap (1 * 2 ^ b)) (by omega)
        have hm1 : m + 1 ≤ 1099511627776 := by have := vAt_len fs q1 j; rw [hm, hL, List.length_map]; omega
        (repeat (first | refine WK ?_ | refine All.i fun Z => ?_ | refine AllY.i fun Y => ?_))
        refine AWP.rs fun X7 => ?_
        (repeat refine WF ?_); refine AWP.region_run (by kernel_rfl) (by kernel_rfl) ?_; (repeat (first | (refine RGo.gN ?_; first | (refine RGo.g_callf ?_; first | refine RGo.o2 (h := (next_po G _ _ (by rw [hw]; omega))) (k := ?_)) | refine RGo.p (W.shl rfl rfl hb (by show b ≤ 64; omega)) rfl ?_ | refine RGo.p (W.add rfl rfl (by omega)) rfl ?_) | (refine RGo.gQ ?_; first | (refine RGo.g_callf ?_; first | refine RGo.o2 (h := (next_po G _ _ (by rw [hw]; omega))) (k := ?_)) | refine RGo.p (W.shl rfl rfl hb (by show b ≤ 64; omega)) rfl ?_ | refine RGo.p (W.add rfl rfl (by omega)) rfl ?_) | refine RK ?_ | refine RGo.nil (by kernel_rfl) ?_))
        (repeat (first | refine WK ?_ | refine All.i fun X => ?_ | refine AllY.i fun Y => ?_))
        have hva : vAt fs q1 (j + 1) = ((vAt fs q1 j).1 ++ [fs[j].low + nextV r (IntKind.i64.wrap (1 * 2 ^ b))], nextL r (IntKind.i64.wrap (1 * 2 ^ b))) := by rw [vAt_next hj', ← hr, hw, hb]; rfl
        refine lp_next5 (j + 1) X7 _ _ _ ⟨hj', ?_, ?_, ?_⟩
        · rw [hva, hL, List.map_append]; rfl
        · rw [List.length_append, hm]
        · rw [hva]
      · have hj' : j = fs.length := by rw [decide_eq_false_iff_not, List.length_map] at hd; omega
        subst hj'
        (repeat first | refine AOps.nil ?_ | refine WF ?_)
        refine AWP.iceIn (X := F) (Y := Y) .here (.next .here) rfl (.cons (.agg (.cons .same (.cons (.base (.sl (by omega))) .nil))) .nil) ?_
        have hF : AV.frzs ((L.drop 0).take m) = (vAt fs q1 fs.length).1.map iA := by
          rw [List.drop_zero, List.take_of_length_le (by omega), hL]
          exact Frzs.h
        rw [hF]
        (repeat (first | (refine AOps.gN ?_; first | (refine AOps.g_lit ?_; refine AOps.goL (compA false ⟨i, (vAt fs q1 fs.length).1⟩) ?_)) | refine WK ?_ | refine All.i fun X => ?_ | refine AllY.i fun Y => ?_))
        refine lp_next5 (i + 1) Y _ _ _ ⟨h, ?_, ?_, ?_⟩
        · rw [hck, hM, List.map_append]; rfl
        · rw [List.length_append, hn]
        · rw [hck, hr]
  · have h : i = ks.length := by rw [decide_eq_false_iff_not, List.length_map] at hc; omega
    subst h
    (repeat (first | refine WK ?_ | refine All.i fun X => ?_ | refine AllY.i fun Y => ?_))
    (refine AWP.ret ?_; (repeat (first | refine inB_r ?_ | refine andThen_r ?_)); refine retQ_r ?_)
    subst hM hq
    exact ⟨[.sl K 0 n], [.lst true 141 2 ((cAt ks l ks.length).1.map (compA false))], _, [(G, streamO (cAt ks l ks.length).2)], .cons (.tmp rfl) rfl .nil, .cons (.cell (.sl (p := 0) .here hn)) .nil, by exact Sub.f, rfl, rfl⟩
theorem wAt_len1 (ks : List Kind) (l : List Int) (i : Nat) : (wAt ks l i).1.length = i := by
  induction i with
  | zero => rfl
  | succ i ih => rw [wAt]; split <;> simp [ih]
theorem wAt_len2 (ks : List Kind) (l : List Int) (i : Nat) : (wAt ks l i).2.1.length ≤ i := by
  induction i with
  | zero => simp [wAt]
  | succ i ih => rw [wAt]; split <;> (try simp only [List.length_append, List.length_singleton]) <;> omega
/-- A made world: its lists of generations and items are its own. -/
def wdO (w : Wd) : AV := .agg [kindsA false false w.kinds, intsA true w.gens, itemsA true false w.items]
instance {w : Wd} : Frz (wdO w) (wdA false w) := ⟨by unfold wdO wdA; exact Frz.h⟩
theorem genField_rng (i : Nat) (l : List Int) : FieldOK (genField i l).1 := by
  have h9 := nextV_range l (n := 9) (by decide)
  have h40 := nextV_range (nextL l 9) (n := 40) (by decide)
  unfold genField
  split <;> refine ⟨?_, ?_, ?_, ?_⟩ <;> simp <;> omega
theorem fAt_rng (i : Nat) (l : List Int) : ∀ f ∈ (fAt i l).1, FieldOK f := by
  induction i with
  | zero => intro f hf; cases hf
  | succ i ih =>
    intro f hf
    rcases List.mem_append.1 hf with hf | hf
    · exact ih f hf
    · rw [List.mem_singleton.1 hf]; exact genField_rng _ _
theorem genKind_rng (k : Nat) (l : List Int) : (genKind k l).1.fields.length ≤ 3 ∧ ∀ f ∈ (genKind k l).1.fields, FieldOK f := by
  have h := nextV_range l (n := 3) (by decide)
  show (genFields 0 (1 + nextV l 3).toNat (nextL l 3)).1.length ≤ 3 ∧ ∀ f ∈ (genFields 0 (1 + nextV l 3).toNat (nextL l 3)).1, FieldOK f
  rw [genFields_at]
  exact ⟨by rw [fAt_len]; omega, fAt_rng _ _⟩
theorem kAt_rng (i : Nat) (l : List Int) : ∀ k ∈ (kAt i l).1, k.fields.length ≤ 3 ∧ ∀ f ∈ k.fields, FieldOK f := by
  induction i with
  | zero => intro f hf; cases hf
  | succ i ih =>
    intro f hf
    rcases List.mem_append.1 hf with hf | hf
    · exact ih f hf
    · rw [List.mem_singleton.1 hf]; exact genKind_rng _ _
theorem genKinds_cnt (l : List Int) : (genKinds l).1.length = (1 + nextV l 4).toNat := by rw [genKinds_at, kAt_len]
theorem genKinds_rng (l : List Int) : KindsOK (genKinds l).1 := by
  have h := nextV_range l (n := 4) (by decide)
  refine ⟨by rw [genKinds_cnt]; omega, ?_⟩
  rw [genKinds_at]
  intro k hk
  have := kAt_rng _ _ k hk
  exact ⟨by omega, this.2⟩
theorem world_ps (l : List Int) : PS Try.prog 11 [intsA false l] (wdO (genWorld l)) := by
  refine Spec.of (nt := 52) (res := [.cell 2 26]) Try.func11 rfl (by kernel_rfl) rfl rfl rfl fun Sf => ?_
  have hko := genKinds_rng l
  obtain ⟨ks, hks⟩ : ∃ ks, (genKinds l).1 = ks := ⟨_, rfl⟩
  obtain ⟨l1, hl1⟩ : ∃ l1, (genKinds l).2 = l1 := ⟨_, rfl⟩
  have h12 := nextV_range l1 (n := 12) (by decide)
  obtain ⟨c, hc⟩ : ∃ c : Nat, nextV l1 12 = c := ⟨(nextV l1 12).toNat, by omega⟩
  obtain ⟨l2, hl2⟩ : ∃ l2, nextL l1 12 = l2 := ⟨_, rfl⟩
  have hg : genWorld l = ⟨ks, (wAt ks l2 c).1, (wAt ks l2 c).2.1⟩ := by unfold genWorld; rw [hks, hl1, hl2, hc]; rfl
  have hkp := fun G => kinds_po G l
  rw [hks, hl1] at hkp
  rw [hks] at hko
  rw [hg]
  clear hg hks hl1
  (repeat refine WF ?_); refine AWP.region ?_; (repeat (first | refine WO ?_ | refine All.i fun R => ?_ | refine AllY.i fun Y => ?_)); refine AOps.nil ?_; (repeat refine WN ?_)
  (repeat refine WF ?_); refine AWP.region ?_; (repeat (first | refine WO ?_ | refine All.i fun G => ?_ | refine AllY.i fun Y => ?_)); refine AOps.nil ?_; (repeat refine WN ?_)
  (repeat refine WF ?_); refine AWP.region ?_; (repeat (first | (refine AOps.gN ?_; first | (refine AOps.g_callf ?_; first | refine AOps.o1 (h := (hkp G)) (k := ?_))) | refine WO ?_ | refine All.i fun V => ?_ | refine AllY.i fun Y => ?_)); refine AOps.nil ?_; (repeat refine WN ?_)
  (repeat refine WF ?_); refine AWP.region ?_; (repeat (first | (refine AOps.gN ?_; first | (refine AOps.g_callf ?_; first | refine AOps.o2 (h := (next_po G _ _ (by decide))) (k := ?_))) | refine WO ?_ | refine All.i fun X => ?_ | refine AllY.i fun Y => ?_)); refine AOps.nil ?_; (repeat refine WN ?_)
  rw [hl2, hc]
  refine AWP.adoptIn (Y := V) 36 3 (by exact At.f) (fun F => .cons (.agg (.cons .same (.cons .same (.cons (.base .nil) .nil)))) .nil) fun B => ?_
  refine AWP.adoptIn (Y := V) 3 1 (by exact At.f) (fun F => .cons (.agg (.cons .same (.cons (.base .nil) (.cons .same .nil)))) .nil) fun A => ?_
  (repeat first | refine AOps.nil ?_ | refine WF ?_)
  refine AWP.lp7 (fun (i A B : Nat) (L M : List AV) (n : Nat) (q : List Int) => ⟨[(2, .ptr R 0 0), (3, .ptr G 0 0), (4, .ptr V 0 0), (13, iA c), (14, iA i)], (A, .row 3 1 L) :: (B, .row 36 3 M) :: (V, .row 26 3 [.agg [kindsA false false ks, .sl A 0 i, .sl B 0 n]]) :: (G, streamO q) :: (R, .row 26 3 [.agg [.prim (.slice none 0 0), .prim (.slice none 0 0), .prim (.slice none 0 0)]]) :: Sf⟩) (fun i _ _ L M n q => i ≤ c ∧ L = (wAt ks l2 i).1.map iA ∧ M = (wAt ks l2 i).2.1.map (itemA false) ∧ n = M.length ∧ q = (wAt ks l2 i).2.2) (fun i _ _ _ _ _ _ => c - i) 0 A B [] [] 0 l2 ⟨Nat.zero_le _, rfl, rfl, rfl, rfl⟩ ?_
  rintro i A B L M n q ⟨hi, hL, hM, hn, hq⟩
  have hA := wAt_len1 ks l2 i
  have hB := wAt_len2 ks l2 i
  (repeat (first | refine WK ?_ | refine All.i fun X => ?_ | refine AllY.i fun Y => ?_))
  refine AWP.cond rfl (fun hd => ?_) (fun hd => ?_)
  · have h : i < c := by rw [decide_eq_true_eq] at hd; omega
    have h3 := nextV_range q (n := 3) (by decide)
    have h4 := nextV_range (nextL q 3) (n := 4) (by decide)
    (repeat refine WF ?_); refine AWP.region ?_; (repeat (first | refine WO ?_ | refine All.i fun X => ?_ | refine AllY.i fun Y => ?_)); refine AOps.nil ?_; (repeat refine WN ?_)
    refine AWP.rs fun X7 => ?_
    (repeat refine WF ?_); refine AWP.region_run (by kernel_rfl) (by kernel_rfl) ?_; (repeat (first | (refine RGo.gN ?_; first | (refine RGo.g_callf ?_; first | refine RGo.o2 (h := (next_po G _ _ (by decide))) (k := ?_))) | (refine RGo.gQ ?_; first | (refine RGo.g_callf ?_; first | refine RGo.o2 (h := (next_po G _ _ (by decide))) (k := ?_))) | refine RK ?_ | refine RGo.nil (by kernel_rfl) ?_))
    (repeat (first | (refine AOps.gN ?_; first | (refine AOps.g_callf ?_; first | refine AOps.o2 (h := (next_po G _ _ (by decide))) (k := ?_))) | refine WK ?_ | refine All.i fun X => ?_ | refine AllY.i fun Y => ?_))
    have hLl : L.length = i := by rw [hL, List.length_map, hA]
    obtain ⟨IT, hIT⟩ : ∃ IT, (wAt ks l2 i).2.1 = IT := ⟨_, rfl⟩
    rw [hIT] at hM hB
    have hnl : n = IT.length := by rw [hn, hM, List.length_map]
    have hat : (L ++ [.prim (.int .i64 (nextV q 3))])[i]? = some (.prim (.int .i64 (nextV q 3))) := by rw [← hLl]; simp
    refine AWP.cond rfl (fun he => ?_) (fun he => ?_)
    · have he : nextV (nextL q 3) 4 = 3 ∨ n = 8 := by rw [Bool.or_eq_true, decide_eq_true_eq, decide_eq_true_eq] at he; omega
      have hw : wAt ks l2 (i + 1) = ((wAt ks l2 i).1 ++ [nextV q 3], IT, nextL (nextL q 3) 4) := by rw [wAt, ← hq, hIT, ← hnl, if_pos he]
      (repeat (first | refine WK ?_ | refine All.i fun X => ?_ | refine AllY.i fun Y => ?_))
      refine lp_next7 (i + 1) X7 B _ M n _ ⟨h, ?_, ?_, hn, ?_⟩
      · rw [hw, hL, List.map_append]; rfl
      · rw [hw, hM]
      · rw [hw]
    · have he : ¬ (nextV (nextL q 3) 4 = 3 ∨ n = 8) := by rw [Bool.or_eq_false_iff, decide_eq_false_iff_not, decide_eq_false_iff_not] at he; omega
      have hw : wAt ks l2 (i + 1) = ((wAt ks l2 i).1 ++ [nextV q 3], IT ++ [⟨⟨i, nextV q 3⟩, (genComps ks (nextL (nextL q 3) 4)).1⟩], (genComps ks (nextL (nextL q 3) 4)).2) := by rw [wAt, ← hq, hIT, ← hnl, if_neg he]
      have hin : i < i + [AV.prim (.int .i64 (nextV q 3))].length := Nat.lt_succ_self i
      refine AWP.rs fun X8 => ?_
      (repeat refine WF ?_); refine AWP.region_run (by kernel_rfl) (by kernel_rfl) ?_; (repeat (first | (refine RGo.gN ?_; first | (refine RGo.g_callf ?_; first | refine RGo.o2 (h := (comps_po G ks _ hko)) (k := ?_)) | (refine RGo.g_lit ?_; refine RGo.goL (itemA false ⟨⟨i, nextV q 3⟩, (genComps ks (nextL (nextL q 3) 4)).1⟩) ?_)) | (refine RGo.gQ ?_; first | (refine RGo.g_callf ?_; first | refine RGo.o2 (h := (comps_po G ks _ hko)) (k := ?_)) | (refine RGo.g_lit ?_; refine RGo.goL (itemA false ⟨⟨i, nextV q 3⟩, (genComps ks (nextL (nextL q 3) 4)).1⟩) ?_)) | refine RK ?_ | refine RGo.nil (by kernel_rfl) ?_))
      (repeat (first | refine WK ?_ | refine All.i fun X => ?_ | refine AllY.i fun Y => ?_))
      refine lp_next7 (i + 1) X7 X8 _ _ _ _ ⟨h, ?_, ?_, ?_, ?_⟩
      · rw [hw, hL, List.map_append]; rfl
      · rw [hw, hM, List.map_append]; rfl
      · rw [List.length_append, hn]
      · rw [hw]
  · have h : i = c := by rw [decide_eq_false_iff_not] at hd; omega
    subst h
    (repeat (first | refine WK ?_ | refine All.i fun X => ?_ | refine AllY.i fun Y => ?_))
    (refine AWP.ret ?_; (repeat (first | refine inB_r ?_ | refine andThen_r ?_)); refine retQ_r ?_)
    subst hL hM
    have hA : i = ((wAt ks l2 i).1.map iA).length := by rw [List.length_map, hA]
    exact ⟨[.agg [kindsA false false ks, .sl A 0 i, .sl B 0 n]], [wdO ⟨ks, (wAt ks l2 i).1, (wAt ks l2 i).2.1⟩], _, [], .cons (.cell (p := 4) rfl (by exact At.f) TAg.h TSize.h rfl rfl) rfl .nil, .cons (.agg (.cons .same (.cons (.sl (p := 0) .here hA) (.cons (.sl (p := 0) .here hn) .nil)))) .nil, by exact Sub.f, rfl, rfl⟩
end Go.Proofs.Ytfkppbkipbbmaaa

namespace Go.Proofs.Ytfkppbkipbbmaaa
set_option linter.unusedVariables false
theorem cAt_mem {ks : List Kind} {l : List Int} {i : Nat} {c : Comp} (h : c ∈ (cAt ks l i).1) : ∃ (j : Nat) (hj : j < ks.length) (q : List Int), j < i ∧ c = ⟨j, (vAt ks[j].fields q ks[j].fields.length).1⟩ := by
  induction i with
  | zero => cases h
  | succ i ih =>
    by_cases hi : i < ks.length
    · by_cases h2 : nextV (cAt ks l i).2 3 = 2
      · rw [cAt_no hi h2] at h
        obtain ⟨j, hj, q, h3, h4⟩ := ih h
        exact ⟨j, hj, q, by omega, h4⟩
      · rw [cAt_yes hi h2] at h
        rcases List.mem_append.1 h with h | h
        · obtain ⟨j, hj, q, h3, h4⟩ := ih h
          exact ⟨j, hj, q, by omega, h4⟩
        · rw [List.mem_singleton.1 h]
          exact ⟨i, hi, _, by omega, rfl⟩
    · rw [cAt, List.getElem?_eq_none (by omega)] at h
      obtain ⟨j, hj, q, h3, h4⟩ := ih h
      exact ⟨j, hj, q, by omega, h4⟩
theorem wAt_mem {ks : List Kind} {l : List Int} {i : Nat} {it : Item} (h : it ∈ (wAt ks l i).2.1) : ∃ (j : Nat) (q : List Int), j < i ∧ (wAt ks l i).1[j]? = some it.ent.gen ∧ it.ent.n = j ∧ it.comps = (genComps ks q).1 := by
  induction i with
  | zero => cases h
  | succ i ih =>
    have hl := wAt_len1 ks l i
    have hup : ∀ (x : Int) (g : Int) (j : Nat), (wAt ks l i).1[j]? = some g → ((wAt ks l i).1 ++ [x])[j]? = some g := fun x g j hg => by
      rw [List.getElem?_append_left (List.getElem?_eq_some_iff.1 hg).1, hg]
    rw [wAt] at h ⊢
    split
    · rename_i hs
      rw [if_pos hs] at h
      obtain ⟨j, q, h1, h2, h3, h4⟩ := ih h
      exact ⟨j, q, by omega, hup _ _ _ h2, h3, h4⟩
    · rename_i hs
      rw [if_neg hs] at h
      rcases List.mem_append.1 h with h | h
      · obtain ⟨j, q, h1, h2, h3, h4⟩ := ih h
        exact ⟨j, q, by omega, hup _ _ _ h2, h3, h4⟩
      · rw [List.mem_singleton.1 h]
        exact ⟨i, _, by omega, by rw [List.getElem?_append_right (by omega), hl]; simp, rfl, rfl⟩
theorem genKinds_small (l : List Int) : (genKinds l).1.length ≤ 4 ∧ ∀ k ∈ (genKinds l).1, k.fields.length ≤ 3 := by
  have h := nextV_range l (n := 4) (by decide)
  refine ⟨by rw [genKinds_cnt]; omega, ?_⟩
  rw [genKinds_at]
  intro k hk
  exact (kAt_rng _ _ k hk).1
theorem genWorld_small (l : List Int) : (genWorld l).items.length ≤ 12 ∧ (genWorld l).gens.length ≤ 12 ∧ ∀ it ∈ (genWorld l).items, it.comps.length ≤ 4 ∧ ∀ c ∈ it.comps, c.vals.length ≤ 3 := by
  have h := nextV_range (genKinds l).2 (n := 12) (by decide)
  have h1 := wAt_len2 (genKinds l).1 (nextL (genKinds l).2 12) (nextV (genKinds l).2 12).toNat
  have h2 := wAt_len1 (genKinds l).1 (nextL (genKinds l).2 12) (nextV (genKinds l).2 12).toNat
  obtain ⟨h3, h4⟩ := genKinds_small l
  refine ⟨Nat.le_trans h1 (by omega), Nat.le_trans (Nat.le_of_eq h2) (by omega), fun it hit => ?_⟩
  obtain ⟨j, q, _, _, _, hc⟩ := wAt_mem hit
  rw [hc]
  refine ⟨Nat.le_trans (cAt_len _ _ _) h3, fun c hcm => ?_⟩
  obtain ⟨j, hj, q, _, rfl⟩ := cAt_mem hcm
  exact Nat.le_trans (vAt_len _ _ _) (h4 _ (List.getElem_mem hj))
end Go.Proofs.Ytfkppbkipbbmaaa

namespace Go.Proofs.Ytfkppbkipbbmaaa
set_option linter.unusedVariables false
theorem heldFrom_iff {ks : List Kind} : ∀ {l : List Comp} {last : Int}, -1 ≤ last → (heldFrom ks last l = true ↔ l.Pairwise (fun a b => a.kind < b.kind) ∧ ∀ c ∈ l, last < c.kind ∧ c.kind < ks.length ∧ ∃ k, ks[c.kind.toNat]? = some k ∧ holdsOf k c.vals = true)
  | [], _, _ => by simp [heldFrom]
  | c :: l, last, hl => by
    rw [heldFrom]
    constructor
    · intro h
      split at h
      · rename_i k hk
        simp only [Bool.and_eq_true, decide_eq_true_eq] at h
        obtain ⟨⟨⟨h1, h2⟩, h3⟩, h4⟩ := h
        obtain ⟨h5, h6⟩ := (heldFrom_iff (by omega)).1 h4
        refine ⟨List.pairwise_cons.2 ⟨fun d hd => (h6 d hd).1, h5⟩, fun d hd => ?_⟩
        rcases List.mem_cons.1 hd with rfl | hd
        · exact ⟨h1, h2, k, hk, h3⟩
        · obtain ⟨q1, q2⟩ := h6 d hd
          exact ⟨by omega, q2⟩
      · cases h
    · rintro ⟨h1, h2⟩
      obtain ⟨h3, h4⟩ := List.pairwise_cons.1 h1
      obtain ⟨h5, h6, k, hk, h7⟩ := h2 c (by simp)
      rw [hk]
      simp only [Bool.and_eq_true, decide_eq_true_eq]
      exact ⟨⟨⟨h5, h6⟩, h7⟩, (heldFrom_iff (by omega)).2 ⟨h4, fun d hd => ⟨h3 d hd, (h2 d (by simp [hd])).2⟩⟩⟩
theorem itemsFrom_iff {ks : List Kind} {gens : List Int} : ∀ {l : List Item} {last : Int}, -1 ≤ last → (itemsFrom ks gens last l = true ↔ l.Pairwise (fun a b => a.ent.n < b.ent.n) ∧ ∀ it ∈ l, last < it.ent.n ∧ it.ent.n < gens.length ∧ gens[it.ent.n.toNat]? = some it.ent.gen ∧ it.ent.gen ≠ 1073741824 ∧ heldOf ks it.comps = true)
  | [], _, _ => by simp [itemsFrom]
  | c :: l, last, hl => by
    rw [itemsFrom]
    constructor
    · intro h
      split at h
      · rename_i k hk
        simp only [Bool.and_eq_true, decide_eq_true_eq, Bool.not_eq_true', decide_eq_false_iff_not] at h
        obtain ⟨⟨⟨⟨⟨h1, h2⟩, h3⟩, h4⟩, h7⟩, h8⟩ := h
        obtain ⟨h5, h6⟩ := (itemsFrom_iff (by omega)).1 h8
        refine ⟨List.pairwise_cons.2 ⟨fun d hd => (h6 d hd).1, h5⟩, fun d hd => ?_⟩
        rcases List.mem_cons.1 hd with rfl | hd
        · exact ⟨h1, h2, by rw [hk, h3], h4, h7⟩
        · obtain ⟨q1, q2⟩ := h6 d hd
          exact ⟨by omega, q2⟩
      · cases h
    · rintro ⟨h1, h2⟩
      obtain ⟨h3, h4⟩ := List.pairwise_cons.1 h1
      obtain ⟨h5, h6, hk, h7, h8⟩ := h2 c (by simp)
      rw [hk]
      simp only [Bool.and_eq_true, decide_eq_true_eq, Bool.not_eq_true', decide_eq_false_iff_not]
      exact ⟨⟨⟨⟨⟨h5, h6⟩, trivial⟩, h7⟩, h8⟩, (itemsFrom_iff (by omega)).2 ⟨h4, fun d hd => ⟨h3 d hd, (h2 d (by simp [hd])).2⟩⟩⟩
/-- What a valid world is. -/
structure WdOK (w : Wd) : Prop where
  ks : checkErr w.kinds = 0
  gl : w.gens.length ≤ 256
  il : w.items.length ≤ w.gens.length
  gs : ∀ g ∈ w.gens, 0 ≤ g ∧ g ≤ 1073741824
  so : w.items.Pairwise fun a b => a.ent.n < b.ent.n
  it : ∀ it ∈ w.items, 0 ≤ it.ent.n ∧ it.ent.n < w.gens.length ∧ w.gens[it.ent.n.toNat]? = some it.ent.gen ∧ it.ent.gen ≠ 1073741824 ∧ heldOf w.kinds it.comps = true
theorem wdErr_iff (w : Wd) : wdErr w = 0 ↔ WdOK w := by
  have hg : gensOk w.gens = true ↔ ∀ g ∈ w.gens, 0 ≤ g ∧ g ≤ 1073741824 := by
    unfold gensOk
    rw [List.all_eq_true]
    simp only [Bool.and_eq_true, decide_eq_true_eq]
  have hi := itemsFrom_iff (ks := w.kinds) (gens := w.gens) (l := w.items) (last := -1) (by omega)
  unfold wdErr
  constructor
  · intro h
    split at h
    · exact absurd h ‹_›
    rename_i h1
    split at h
    · cases h
    rename_i h2
    split at h
    · cases h
    rename_i h3
    split at h
    · cases h
    rename_i h4
    obtain ⟨h5, h6⟩ := hi.1 (by simpa using h4)
    exact ⟨by simpa using h1, by omega, by omega, hg.1 (by simpa using h3), h5, fun it hit => by obtain ⟨a, b⟩ := h6 it hit; exact ⟨by omega, b⟩⟩
  · intro h
    rw [if_neg (by simp [h.ks]), if_neg (by have := h.gl; have := h.il; omega), if_neg (by rw [hg.2 h.gs]; simp), if_neg (by rw [hi.2 ⟨h.so, fun it hit => by obtain ⟨a, b⟩ := h.it it hit; exact ⟨by omega, b⟩⟩]; simp)]
theorem cAt_pair (ks : List Kind) (l : List Int) (i : Nat) : (cAt ks l i).1.Pairwise fun a b => a.kind < b.kind := by
  induction i with
  | zero => exact .nil
  | succ i ih =>
    by_cases hi : i < ks.length
    · by_cases h2 : nextV (cAt ks l i).2 3 = 2
      · rw [cAt_no hi h2]; exact ih
      · rw [cAt_yes hi h2]
        refine List.pairwise_append.2 ⟨ih, List.pairwise_singleton .., fun a ha b hb => ?_⟩
        rw [List.mem_singleton.1 hb]
        obtain ⟨j, hj, q, hji, rfl⟩ := cAt_mem ha
        show (j : Int) < i
        omega
    · rw [cAt, List.getElem?_eq_none (by omega)]; exact ih
theorem vAt_fit {fs : List Field} (hf : ∀ f ∈ fs, fieldErr f = 0) (hr : ∀ f ∈ fs, FieldOK f) (l : List Int) : ∀ i, i ≤ fs.length → List.zipWith nearOf (fs.take i) (vAt fs l i).1 = (vAt fs l i).1 ∧ (vAt fs l i).1.length = i
  | 0, _ => ⟨rfl, rfl⟩
  | i + 1, h => by
    obtain ⟨h1, h2⟩ := vAt_fit hf hr l i (by omega)
    rw [vAt_next (by omega)]
    have hm := List.getElem_mem (l := fs) (n := i) (by omega)
    obtain ⟨hb0, hb1, _, _⟩ := hr _ hm
    have hp := pow_small (b := fs[i].bits.toNat) (by omega)
    have hv := nextV_range (vAt fs l i).2 (n := 2 ^ fs[i].bits.toNat) (by omega)
    have hh : highOf fs[i] = fs[i].low + (2 ^ fs[i].bits.toNat - 1) := by unfold highOf; rw [if_pos (hf _ hm)]
    refine ⟨?_, by rw [List.length_append, h2]; rfl⟩
    rw [List.take_succ_eq_append_getElem (by omega), List.zipWith_append (by rw [h2, List.length_take]; omega), h1]
    simp only [List.zipWith_cons_cons, List.zipWith_nil_left]
    rw [near_in (hf _ hm) (by omega) (by rw [hh]; omega)]
theorem vAt_holds {k : Kind} (h1 : oneErr k = 0) (hf : ∀ f ∈ k.fields, fieldErr f = 0) (hr : ∀ f ∈ k.fields, FieldOK f) (l : List Int) : holdsOf k (vAt k.fields l k.fields.length).1 = true := by
  obtain ⟨h2, h3⟩ := vAt_fit hf hr l k.fields.length (Nat.le_refl _)
  rw [List.take_length] at h2
  unfold holdsOf
  rw [fitOf_ok h1 h3, h2]
  simp
/-- Kinds as they are made. -/
structure KsGood (ks : List Kind) : Prop where
  one : ∀ k ∈ ks, oneErr k = 0
  fld : ∀ k ∈ ks, ∀ f ∈ k.fields, fieldErr f = 0
  rng : ∀ k ∈ ks, ∀ f ∈ k.fields, FieldOK f
theorem genKinds_good (l : List Int) : KsGood (genKinds l).1 :=
  ⟨genKinds_ok l, fun k hk => (genKinds_fields l k hk).1, fun k hk => ((genKinds_rng l).2 k hk).2⟩
theorem genComps_held {ks : List Kind} (h : KsGood ks) (l : List Int) : heldOf ks (genComps ks l).1 = true := by
  unfold heldOf
  rw [heldFrom_iff (by omega)]
  refine ⟨cAt_pair _ _ _, fun c hc => ?_⟩
  obtain ⟨j, hj, q, _, rfl⟩ := cAt_mem hc
  have hm := List.getElem_mem hj
  exact ⟨by show (-1 : Int) < (j : Int); omega, by show (j : Int) < _; omega, ks[j], List.getElem?_eq_getElem hj, vAt_holds (h.one _ hm) (h.fld _ hm) (h.rng _ hm) q⟩
theorem wAt_pair (ks : List Kind) (l : List Int) (i : Nat) : (wAt ks l i).2.1.Pairwise fun a b => a.ent.n < b.ent.n := by
  induction i with
  | zero => exact .nil
  | succ i ih =>
    rw [wAt]
    split
    · exact ih
    · refine List.pairwise_append.2 ⟨ih, List.pairwise_singleton .., fun a ha b hb => ?_⟩
      rw [List.mem_singleton.1 hb]
      obtain ⟨j, q, hji, _, e, _⟩ := wAt_mem ha
      show a.ent.n < (i : Int)
      omega
theorem wAt_gens (ks : List Kind) (l : List Int) (i : Nat) : ∀ g ∈ (wAt ks l i).1, 0 ≤ g ∧ g < 3 := by
  induction i with
  | zero => intro g hg; cases hg
  | succ i ih =>
    intro g hg
    rw [wAt] at hg
    have h3 := nextV_range (wAt ks l i).2.2 (n := 3) (by decide)
    split at hg <;>
    · rcases List.mem_append.1 hg with hg | hg
      · exact ih g hg
      · rw [List.mem_singleton.1 hg]; exact h3
/-- Made worlds are valid. -/
theorem genWorld_ok (l : List Int) : WdOK (genWorld l) := by
  have h := nextV_range (genKinds l).2 (n := 12) (by decide)
  have h1 := wAt_len2 (genKinds l).1 (nextL (genKinds l).2 12) (nextV (genKinds l).2 12).toNat
  have h2 := wAt_len1 (genKinds l).1 (nextL (genKinds l).2 12) (nextV (genKinds l).2 12).toNat
  have h3 := wAt_gens (genKinds l).1 (nextL (genKinds l).2 12) (nextV (genKinds l).2 12).toNat
  refine ⟨genKinds_check l, ?_, ?_, fun g hg => ?_, wAt_pair _ _ _, fun it hit => ?_⟩
  · exact Nat.le_trans (Nat.le_of_eq h2) (by omega)
  · exact Nat.le_trans h1 (Nat.le_of_eq h2.symm)
  · have := h3 g hg; omega
  · obtain ⟨j, q, hji, hg, hn, hc⟩ := wAt_mem hit
    have hjl : j < (wAt (genKinds l).1 (nextL (genKinds l).2 12) (nextV (genKinds l).2 12).toNat).1.length := (List.getElem?_eq_some_iff.1 hg).1
    have hgm := h3 _ (List.mem_of_getElem? hg)
    refine ⟨by omega, ?_, ?_, by omega, by rw [hc]; exact genComps_held (genKinds_good l) q⟩
    · rw [hn]; show (j : Int) < ((wAt _ _ _).1.length : Int); omega
    · rw [hn]; exact hg
theorem genWorld_gens (l : List Int) : ∀ g ∈ (genWorld l).gens, 0 ≤ g ∧ g < 3 := wAt_gens _ _ _
end Go.Proofs.Ytfkppbkipbbmaaa

namespace Go.Proofs.Ytfkppbkipbbmaaa
set_option linter.unusedVariables false
open Go.RowKit
def baseM (w : World) : Mem := ⟨fun _ => none, fun _ => False, w, fun b => b < w.heap.size⟩
theorem baseM_good (w : World) : Good (baseM w) (baseM w) 0 [] [] :=
  ⟨fun z hz => (by cases hz), .nil, fun b hb => (by cases hb), fun b h => h, .nil, fun x hx => (by cases hx), fun x h => h.elim, .refl _, rfl, rfl, rfl, Nat.le_refl _⟩
theorem Good.bel {w : World} {m' : Mem} {N : Nat} {Z : Zs} {br : List Nat} (G : Good (baseM w) m' N Z br) : Below w.heap.size w m'.w :=
  ⟨G.os, G.tape, G.output, G.size, fun k hk => (G.le.F k hk).2⟩
theorem PS.calls_bool {P : Program} {f : FuncId} {args : List AV} {b : Bool} (h : PS P f args (bA b)) {w : World} {vals : Array Value} (hv : VTs (baseM w) args vals.toList []) :
    Calls P f vals w fun e w' => e = .returned (.bool b) ∧ Below w.heap.size w w' :=
  (h.run [] (baseM w) 0 [] vals rfl (baseM_good w) hv).mono fun e w' ⟨v, r, S', m', N', Z', br, h1, h2, h3, G, h4, h5, h6⟩ => by
    subst h1 h2 h5
    refine ⟨?_, G.bel⟩
    obtain ⟨⟨h7, _⟩, _⟩ := h4
    injection h7 with h7
    rw [h7]
theorem cells_vcs {α : Type} {m : Mem} {C : List Value → α → Prop} {sz : Nat} {f : α → AV} (hC : ∀ c x, C c x → VC m (f x) c []) : ∀ {l : List α} {xs : List Value}, Cells C sz xs l → VCs m (l.map f) xs []
  | [], _, h => ⟨h, rfl⟩
  | x :: l, _, ⟨c, ys, h1, h2, h3, h4⟩ => ⟨c, ys, [], [], h1, rfl, hC c x h3, cells_vcs hC h4⟩
theorem cell_block {w : World} {b o : Nat} {u : Value} (h : w.cell? ⟨b, o, none⟩ = some u) : ∃ arr t r, w.heap[b]? = some (.cells arr t r) ∧ arr[o]? = some u := by
  unfold World.cell? at h
  cases hb : w.heap[b]? with
  | none => simp only [hb] at h; cases h
  | some blk =>
    cases blk with
    | cells c t r => simp only [hb] at h; exact ⟨c, t, r, rfl, by simpa using h⟩
    | _ => simp only [hb] at h; cases h
theorem sl_vc {α : Type} {w : World} {C : World → Reg → List Value → α → Prop} {sz : Nat} {f : α → AV} {t : TypeId} {v : Value} {l : List α} (hsz : 0 < sz) (hC : ∀ c x, C w (Lt w) c x → VC (baseM w) (f x) c []) (hw : ∀ x, (f x).width = sz) (h : Sl w (Lt w) sz C v l) : VC (baseM w) (.lst false t sz (l.map f)) [v] [] := by
  obtain ⟨xs, ⟨h1, A, cap, rfl, hn, hr⟩, hc⟩ := h
  refine ⟨rfl, A, cap, by simp, by simpa using hn, fun e he => by obtain ⟨x, _, rfl⟩ := List.mem_map.1 he; exact hw x, fun h0 => ?_⟩
  have h0 : 0 < l.length := by simpa using h0
  obtain ⟨b, off, rfl, hb, hcell⟩ := hr h0
  have hx : 0 < xs.length := by rw [h1]; exact Nat.mul_pos h0 hsz
  obtain ⟨arr, t', r, h2, h3⟩ := cell_block (hcell 0 xs[0] (by simp))
  refine ⟨b, off, arr, t', r, rfl, hb, h2, ?_⟩
  have e : (arr.toList.drop off).take ((l.map f).length * sz) = xs := by
    apply List.ext_getElem?
    intro j
    rw [List.getElem?_take]
    split
    · rename_i hj
      have hj : j < xs.length := by rw [h1]; simpa using hj
      obtain ⟨arr2, t2, r2, h4, h5⟩ := cell_block (hcell j xs[j] (by simp))
      rw [h2] at h4
      injection h4 with h4
      injection h4 with h4
      subst h4
      rw [List.getElem?_drop, List.getElem?_eq_getElem hj]
      simpa using h5
    · rename_i hj
      rw [List.getElem?_eq_none]
      rw [h1]; simpa using hj
  rw [e]
  exact cells_vcs hC hc
theorem ints_vc {w : World} {v : Value} {l : List Int} (h : Ints w (Lt w) v l) : VC (baseM w) (intsA false l) [v] [] :=
  sl_vc (f := iA) (by decide) (fun c x hc => ⟨⟨hc, rfl⟩, rfl⟩) (fun _ => rfl) h
theorem vts_nil {m : Mem} : VTs m [] [] [] := ⟨rfl, rfl⟩
theorem vts_int {m : Mem} {l : List AV} {us : List Value} {x : Int} (k : VTs m l us []) : VTs m (iA x :: l) (.int .i64 x :: us) [] := (VTs_cons rfl).2 ⟨_, _, [], [], rfl, rfl, ⟨⟨rfl, rfl⟩, rfl⟩, k⟩
theorem vts_ints {w : World} {v : Value} {z : List Int} {l : List AV} {us : List Value} (h : Ints w (Lt w) v z) (k : VTs (baseM w) l us []) : VTs (baseM w) (intsA false z :: l) (v :: us) [] := (VTs_cons rfl).2 ⟨_, _, [], [], rfl, rfl, ints_vc h, k⟩
end Go.Proofs.Ytfkppbkipbbmaaa

namespace Go.Proofs.Ytfkppbkipbbmaaa
set_option linter.unusedVariables false
open Go.RowKit
open Go.Maps in
instance mapIB : TMap Try.prog 31 3 4 (.bool false) := ⟨by kernel_rfl, by kernel_rfl, fun w => by kernel_rfl, plainElem_bool (by kernel_rfl) false⟩
theorem genWorld_L (l : List Int) : WdL (genWorld l) := by
  obtain ⟨h1, h2, h3⟩ := genWorld_small l
  have h4 := genKinds_small l
  exact ⟨⟨Nat.le_trans h4.1 (by decide), fun k hk => Nat.le_trans (h4.2 k hk) (by decide)⟩, by omega, ⟨by omega, fun it hit => ⟨by have := (h3 it hit).1; omega, fun c hc => by have := (h3 it hit).2 c hc; omega⟩⟩⟩
/-- The set of used slots, as a map. -/
def useG (l : List Item) : Int → Option Value := fun x => if usedB l x then some (.bool true) else none
theorem useG_upd {l : List Item} {i : Nat} (h : i < l.length) : updG (useG (l.take i)) l[i].ent.n (.bool true) = useG (l.take (i + 1)) := by
  funext x
  unfold updG useG
  rw [usedB_take h]
  by_cases e : x = l[i].ent.n
  · subst e; simp
  · rw [if_neg e, decide_eq_false (fun h => e h.symm), Bool.or_false]
theorem free_small {w : Wd} (h : w.gens.length ≤ 12) : (freeOf w).2 = true := by
  unfold freeOf
  cases freeN w with
  | some n => rfl
  | none =>
    simp only [decide_eq_true_eq]
    omega
theorem free_slot {w : Wd} (hw : WdOK w) (hg : ∀ g ∈ w.gens, 0 ≤ g ∧ g < 3) : (freeOf w).1 ≤ w.gens.length ∧ (∀ j < (freeOf w).1, usedB w.items (j : Nat) = true) ∧ usedB w.items ((freeOf w).1 : Nat) = false := by
  have hgd : ∀ j < w.gens.length, w.gens.getD j 0 < 1073741824 := fun j hj => by
    rw [List.getD_eq_getElem?_getD, List.getElem?_eq_getElem hj]
    have := (hg _ (List.getElem_mem hj)).2
    simp; omega
  unfold freeOf
  split
  · rename_i n hn
    unfold freeN at hn
    rw [List.find?_eq_some_iff_getElem] at hn
    obtain ⟨h1, i, h2, h3, h4⟩ := hn
    simp only [List.getElem_range] at h3 h4
    subst h3
    rw [List.length_range] at h2
    refine ⟨Nat.le_of_lt h2, fun j hj => ?_, by simp at h1; exact h1.1⟩
    have := h4 j hj
    rw [decide_eq_true (hgd j (by omega))] at this
    simpa using this
  · rename_i hn
    unfold freeN at hn
    rw [List.find?_eq_none] at hn
    refine ⟨Nat.le_refl _, fun j hj => ?_, ?_⟩
    · have := hn j (by simpa using hj)
      rw [decide_eq_true (hgd j hj)] at this
      simpa using this
    · show usedB w.items (w.gens.length : Nat) = false
      unfold usedB
      rw [List.any_eq_false]
      intro it hit
      have := (hw.it it hit).2.1
      simp; omega
set_option maxRecDepth 4000 in
theorem worldSmallest_ps (l : List Int) (hlen : l.length * 8 ≤ 140737488351232) : PS Try.prog 3 [intsA false l] (bA true) := by
  have hwp := world_ps l
  have hok := genWorld_ok l
  have hgs := genWorld_gens l
  have hsm := genWorld_small l
  have hL := genWorld_L l
  obtain ⟨w, hw⟩ : ∃ w, genWorld l = w := ⟨_, rfl⟩
  rw [hw] at hwp hok hgs hsm hL
  clear hw
  have hfr := free_ps w hL.gens hL.items.1
  obtain ⟨h1, h2, h3⟩ := free_slot hok hgs
  have h4 : (freeOf w).2 = true := free_small hsm.2.1
  obtain ⟨n, hn⟩ : ∃ n, (freeOf w).1 = n := ⟨_, rfl⟩
  rw [h4, hn] at hfr
  rw [hn] at h1 h2 h3
  have hgm : (w.gens.map iA).length = w.gens.length := List.length_map _
  have him : (w.items.map (itemA false)).length = w.items.length := List.length_map _
  have g2 : decide (((w.gens.map iA).length : Int) < (n : Int)) = false := decide_eq_false (by omega)
  refine Spec.of (nt := 58) (res := [.tmp 2]) Try.func3 rfl (by kernel_rfl) rfl rfl rfl fun Sf => ?_
  (repeat (first | (refine AOps.gN ?_; first | (refine AOps.g_callf ?_; first | refine AOps.c1 (h := (hwp ..)) (k := ?_) | refine AOps.c0 (h := (begun_ps ..)) (k := ?_))) | refine WK ?_ | refine All.i fun V => ?_ | refine AllY.i fun Y => ?_))
  refine AWP.cond_f rfl rfl ?_
  (repeat (first | (refine AOps.gN ?_; first | (refine AOps.g_callf ?_; first | refine AOps.c1 (h := (hfr ..)) (k := ?_))) | refine WK ?_ | refine All.i fun X => ?_ | refine AllY.i fun Y => ?_))
  refine AWP.cond_f rfl (by first | rfl | assumption) ?_
  (repeat (first | (refine AOps.gN ?_; first | (refine AOps.g_makeMap ?_; refine AOps.goMap fun M => ?_)) | refine WK ?_ | refine All.i fun X => ?_ | refine AllY.i fun Y => ?_))
  refine AWP.lp2 (fun (i s : Nat) => ⟨[(4, iA n), (6, .mp M), (34, itemsA false false w.items), (35, iA (w.items.map (itemA false)).length), (36, iA i)], (M, .ob (MapF Try.prog 3 4 (useG (w.items.take i)) s)) :: Sf⟩) (fun i s => i ≤ w.items.length ∧ s ≤ i) (fun i _ => w.items.length - i) 0 0 ⟨Nat.zero_le _, Nat.le_refl _⟩ ?_
  rintro i s ⟨hi, hs⟩
  (repeat (first | refine WK ?_ | refine All.i fun X => ?_ | refine AllY.i fun Y => ?_))
  refine AWP.cond rfl (fun hc => ?_) (fun hc => ?_)
  · have h : i < w.items.length := by rw [decide_eq_true_eq, him] at hc; omega
    have hup := useG_upd h
    have hir := hok.it _ (List.getElem_mem h)
    obtain ⟨⟨⟨en, eg⟩, cs⟩, hit⟩ : ∃ it, w.items[i] = it := ⟨_, rfl⟩
    rw [hit] at hup hir
    have hat : (w.items.map (itemA false))[i]? = some (itemA false ⟨⟨en, eg⟩, cs⟩) := by rw [List.getElem?_map, List.getElem?_eq_getElem h, hit]; rfl
    dsimp only at hup hir
    have hsm' : s < maxLen := by unfold maxLen; omega
    (repeat (first | (refine AOps.gN ?_; first | refine AOps.s (W.mapUpd (n := en) (u := .bool true) (plainElem_bool (by kernel_rfl) true) (by omega) hsm' rfl rfl rfl (by exact At.f)) rfl ?_) | refine WK ?_ | refine All.i fun V => ?_ | refine AllY.i fun Y => ?_))
    rw [hup]
    refine lp_next2 (i + 1) (if (useG (w.items.take i) en).isSome then s else s + 1) ⟨h, by split <;> omega⟩
  · have h : i = w.items.length := by rw [decide_eq_false_iff_not, him] at hc; omega
    rw [h, List.take_length]
    clear hc hi
    (repeat (first | refine WK ?_ | refine All.i fun X => ?_ | refine AllY.i fun Y => ?_))
    have hlook : ∀ j : Nat, ((useG w.items (j : Nat)).getD (.bool false)) = .bool (usedB w.items (j : Nat)) := fun j => by
      unfold useG
      cases usedB w.items (j : Nat) <;> rfl
    refine AWP.lp (fun j : Nat => ⟨[(4, iA n), (6, .mp M), (45, iA n), (46, iA j)], (M, .ob (MapF Try.prog 3 4 (useG w.items) s)) :: Sf⟩) (fun j => j ≤ n) (fun j => n - j) 0 (Nat.zero_le _) ?_
    rintro j hj
    (repeat (first | refine WK ?_ | refine All.i fun X => ?_ | refine AllY.i fun Y => ?_))
    refine AWP.cond rfl (fun hd => ?_) (fun hd => ?_)
    · have hjn : j < n := by rw [decide_eq_true_eq] at hd; omega
      have hlj := hlook j
      rw [h2 j hjn] at hlj
      (repeat (first | (refine AOps.gN ?_; first | refine AOps.p (W.look1 (.bool true) hlj (by omega) rfl rfl (by exact At.f)) rfl ?_) | refine WK ?_ | refine All.i fun X => ?_ | refine AllY.i fun Y => ?_))
      refine AWP.cond_f rfl rfl ?_
      (repeat (first | refine WK ?_ | refine All.i fun X => ?_ | refine AllY.i fun Y => ?_))
      refine lp_next (j + 1) hjn
    · have hln := hlook n
      rw [h3] at hln
      (repeat (first | (refine AOps.gN ?_; first | refine AOps.p (W.look1 (.bool false) hln (by omega) rfl rfl (by exact At.f)) rfl ?_) | refine WK ?_ | refine All.i fun X => ?_ | refine AllY.i fun Y => ?_))
      (refine AWP.ret ?_; (repeat (first | refine inB_r ?_ | refine andThen_r ?_)); refine retQ_r ?_); refine Ends.ps ?_
      rfl
theorem worldSmallest_calls (l : List Int) (A0 : Option Addr) (n0 cap0 : Nat) (w : World) (hl : Ints w (Lt w) (.slice A0 n0 cap0) l) (hlen : l.length * 8 ≤ 140737488351232) :
    Calls Try.prog 3 #[.slice A0 n0 cap0] w fun e w' => e = .returned (.bool true) ∧ Below w.heap.size w w' :=
  (worldSmallest_ps l hlen).calls_bool (vts_ints hl vts_nil)
end Go.Proofs.Ytfkppbkipbbmaaa
