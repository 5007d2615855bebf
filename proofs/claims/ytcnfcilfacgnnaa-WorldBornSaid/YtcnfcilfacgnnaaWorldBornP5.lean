/-
  Part 5 of the texts under the law WorldBorn: the layer of abstract values, walks and plain laws. Conditions: those that each theorem names.
-/
import Derived.Sort.AssemblyPlain
import Derived.Below
import Derived.Test.YtcnfcilfacgnnaaWorldBornP4
namespace Go.Proofs.Ytcnfcilfacgnnaa
set_option linter.unusedVariables false
def nameI (s : List UInt8) : List Int := (s.length : Int) :: s.map fun b => (b.toNat : Int)
abbrev outO (l : List Int) : AO := .row 22 1 [intsA true l]
theorem nameI_at {s : List UInt8} {i : Nat} (h : i < s.length) : (nameI s).take (i + 2) = (nameI s).take (i + 1) ++ [((s.getD i 0).toNat : Int)] := by
  have hn : i + 1 < (nameI s).length := by simp [nameI]; omega
  rw [List.take_succ_eq_append_getElem hn]
  congr 2
  simp [nameI, List.getD_eq_getElem?_getD, h]
theorem intsName_po (X : Nat) (l : List Int) (s : List UInt8) (hl : (l ++ nameI s).length * 8 ≤ 140737488351232) : PO Try.prog 73 [sA s, .ptr X 0 0] X (outO l) (.tup []) (outO (l ++ nameI s)) := by
  refine Spec.of (nt := 22) (res := []) Try.func73 rfl (by kernel_rfl) rfl rfl rfl fun Sf => ?_
  have hnl : (nameI s).length = s.length + 1 := by simp [nameI]
  rw [List.length_append, hnl] at hl
  refine AWP.thawIn .here (fun Y => .head .here) fun K => ?_
  have hb : ((l.map iA).length + [iA (s.length : Int)].length) * 8 ≤ 140737488355328 := by simp; omega
  (repeat (first | (refine AOps.gN ?_; first | (refine AOps.g_lit ?_; refine AOps.goL (iA (s.length : Int)) ?_)) | refine WK ?_ | refine All.i fun X => ?_ | refine AllY.i fun Y => ?_))
  refine AWP.lp4 (fun (i K n : Nat) (M : List AV) => ⟨[(0, sA s), (1, .ptr X 0 0), (10, iA s.length), (11, iA i)], (K, .row 3 1 M) :: (X, .row 22 1 [.sl K 0 n]) :: Sf⟩) (fun i _ n M => i ≤ s.length ∧ n = M.length ∧ M = (l ++ (nameI s).take (i + 1)).map iA) (fun i _ _ _ => s.length - i) 0 Y _ _ ⟨Nat.zero_le _, ?_, ?_⟩ ?_
  · simp
  · rw [List.map_append]; rfl
  rintro i K n M ⟨hi, hn, hM⟩
  (repeat (first | refine WK ?_ | refine All.i fun X => ?_ | refine AllY.i fun Y => ?_))
  refine AWP.cond rfl (fun hc => ?_) (fun hc => ?_)
  · have h : i < s.length := by rw [decide_eq_true_eq] at hc; omega
    have hMl : n = l.length + (i + 1) := by rw [hn, hM, List.length_map, List.length_append, List.length_take, hnl]; omega
    have hb : (n + [iA ((s.getD i 0).toNat : Int)].length) * 8 ≤ 140737488355328 := by simp; omega
    (repeat (first | refine WK ?_ | refine All.i fun X => ?_ | refine AllY.i fun Y => ?_))
    refine AWP.rs fun Y => ?_
    have hw : IntKind.i64.wrap ((s.getD i 0).toNat : Int) = ((s.getD i 0).toNat : Int) := wrap_id (by omega) (by have := (s.getD i 0).toNat_lt; omega)
    (repeat refine WF ?_); refine AWP.region_run (by kernel_rfl) (by kernel_rfl) ?_; (repeat (first | (refine RGo.gN ?_; first | refine RGo.p (W.conv .u8 .i64 (by kernel_rfl) (by kernel_rfl) rfl hw) rfl ?_ | (refine RGo.g_lit ?_; refine RGo.goL (iA ((s.getD i 0).toNat : Int)) ?_)) | (refine RGo.gQ ?_; first | refine RGo.p (W.conv .u8 .i64 (by kernel_rfl) (by kernel_rfl) rfl hw) rfl ?_ | (refine RGo.g_lit ?_; refine RGo.goL (iA ((s.getD i 0).toNat : Int)) ?_)) | refine RK ?_ | refine RGo.nil (by kernel_rfl) ?_))
    (repeat (first | refine WK ?_ | refine All.i fun X => ?_ | refine AllY.i fun Y => ?_))
    refine lp_next4 (i + 1) Y _ _ ⟨h, ?_, ?_⟩
    · rw [List.length_append, ← hn]
    · rw [nameI_at h, hM, ← List.append_assoc, List.map_append (l₂ := [_])]; rfl
  · have h : i = s.length := by rw [decide_eq_false_iff_not] at hc; omega
    subst h
    rw [List.take_of_length_le (by omega)] at hM
    subst hM
    refine AWP.closeIn (X := K) .here (.next .here) rfl hn (.head .here) ?_
    (repeat (first | refine WK ?_ | refine All.i fun X => ?_ | refine AllY.i fun Y => ?_))
    refine retQ_n ?_
    exact Ends.void [(X, outO (l ++ nameI s))] ⟨rfl, rfl⟩
def fieldI (f : Field) : List Int := nameI f.name ++ [f.bits, f.low]
def kindI (k : Kind) : List Int := nameI k.name ++ (k.fields.length : Int) :: k.fields.flatMap fieldI
def compI (c : Comp) : List Int := c.kind :: (c.vals.length : Int) :: c.vals
def itemI (it : Item) : List Int := it.ent.n :: it.ent.gen :: (it.comps.length : Int) :: it.comps.flatMap compI
/-- What world.Ints returns. -/
def intsOf (w : Wd) : List Int := (w.kinds.length : Int) :: (w.kinds.flatMap kindI ++ ((w.gens.length : Int) :: (w.gens ++ ((w.items.length : Int) :: w.items.flatMap itemI))))
theorem dropF {α : Type} {f : α → List Int} {l : List α} {i : Nat} {x : α} (h : i < l.length) (e : l[i] = x) : (l.drop i).flatMap f = f x ++ (l.drop (i + 1)).flatMap f := by
  rw [List.drop_eq_getElem_cons h, e, List.flatMap_cons]
theorem bndA {A B R : List Int} (hl : R.length * 8 ≤ 140737488351232) (e : A ++ B = R) : A.length * 8 ≤ 140737488351232 := by
  have : A.length + B.length = R.length := by rw [← e, List.length_append]
  omega
set_option maxHeartbeats 4000000 in
set_option maxRecDepth 4000 in
theorem ints_ps (w : Wd) (hl : (intsOf w).length * 8 ≤ 140737488351232) (hw : WdL w) : PS Try.prog 40 [wdA false w] (intsA true (intsOf w)) := by
  obtain ⟨R, hR⟩ : ∃ R, intsOf w = R := ⟨_, rfl⟩
  have hin := hR
  unfold intsOf at hin
  rw [hR] at hl ⊢
  obtain ⟨ks, gens, items⟩ := w
  obtain ⟨⟨hk0, hk1⟩, hg, ⟨hi0, hi1⟩⟩ := hw
  dsimp only at hin hk0 hk1 hg hi0 hi1
  obtain ⟨tail, htail⟩ : ∃ tail, ((gens.length : Int) :: (gens ++ ((items.length : Int) :: items.flatMap itemI))) = tail := ⟨_, rfl⟩
  rw [htail] at hin
  refine Spec.of (nt := 112) (res := [.tmp 2]) Try.func40 rfl (by kernel_rfl) rfl rfl rfl fun Sf => ?_
  have hkm : (ks.map (kindA false)).length = ks.length := List.length_map _
  have hgm : (gens.map iA).length = gens.length := List.length_map _
  have him : (items.map (itemA false)).length = items.length := List.length_map _
  (repeat refine WF ?_); refine AWP.region ?_; (repeat (first | (refine AOps.gN ?_; first | (refine AOps.g_box ?_; refine AOps.goB ?_)) | refine WO ?_ | refine All.i fun X => ?_ | refine AllY.i fun Y => ?_)); refine AOps.nil ?_; (repeat refine WN ?_)
  refine AWP.rs fun K0 => ?_
  (repeat refine WF ?_); refine AWP.region ?_; (repeat (first | (refine AOps.gN ?_; first | refine AOps.s (W.lit1 (X := K0) (l := [iA ((ks.map (kindA false)).length : Int)]) (by exact rfl) (by exact At.f) (by exact rfl) (by exact .inr rfl) (by decide) (by decide) (by exact rfl)) rfl ?_) | refine WO ?_ | refine All.i fun X => ?_ | refine AllY.i fun Y => ?_)); refine AOps.nil ?_; (repeat refine WN ?_)
  rw [hkm]
  refine AWP.closeIn (X := K0) (Y := X) (.next .here) .here rfl rfl (.head .here) ?_
  (repeat (first | refine WK ?_ | refine All.i fun X => ?_ | refine AllY.i fun Y => ?_))
  refine AWP.lp2 (fun (i : Nat) (L : List Int) => ⟨[(1, .fp (wdA false ⟨ks, gens, items⟩).cells), (3, .ptr X 0 0), (4, .fn 73 [.ptr X 0 0]), (19, kindsA false false ks), (20, iA (ks.map (kindA false)).length), (21, iA i)], (X, outO L) :: Sf⟩) (fun i L => i ≤ ks.length ∧ L ++ ((ks.drop i).flatMap kindI ++ tail) = R) (fun i _ => ks.length - i) 0 [(ks.length : Int)] ⟨Nat.zero_le _, hin⟩ ?_
  rintro i L ⟨hi, he⟩
  (repeat (first | refine WK ?_ | refine All.i fun X => ?_ | refine AllY.i fun Y => ?_))
  refine AWP.cond rfl (fun hc => ?_) (fun hc => ?_)
  · have h : i < ks.length := by rw [decide_eq_true_eq, hkm] at hc; omega
    obtain ⟨⟨kn, kf⟩, hk⟩ : ∃ k, ks[i] = k := ⟨_, rfl⟩
    have hat : (ks.map (kindA false))[i]? = some (kindA false ⟨kn, kf⟩) := by rw [List.getElem?_map, List.getElem?_eq_getElem h, hk]; rfl
    have hkl := hk1 _ (hk ▸ List.getElem_mem h)
    dsimp only at hkl
    rw [dropF h hk, kindI, ← List.append_assoc, ← List.append_assoc, ← List.append_assoc] at he
    have hkfm : (kf.map fieldA).length = kf.length := List.length_map _
    dsimp only at he
    have he1 : (L ++ nameI kn) ++ ([(kf.length : Int)] ++ (kf.flatMap fieldI ++ ((ks.drop (i + 1)).flatMap kindI ++ tail))) = R := by rw [← he]; simp
    have hcn := intsName_po X L kn (bndA hl he1)
    (repeat refine WF ?_); refine AWP.region ?_; (repeat (first | refine WO ?_ | refine All.i fun V => ?_ | refine AllY.i fun Y => ?_)); refine AOps.nil ?_; (repeat refine WN ?_)
    (repeat refine WF ?_); refine AWP.region ?_; (repeat (first | (refine AOps.gN ?_; first | (refine AOps.g_callv ?_; first | refine AOps.zc1 (h := hcn) (hT := .frz) (k := ?_))) | refine WO ?_ | refine All.i fun X => ?_ | refine AllY.i fun Y => ?_)); refine AOps.nil ?_; (repeat refine WN ?_)
    obtain ⟨L1, hL1⟩ : ∃ L1, L ++ nameI kn = L1 := ⟨_, rfl⟩
    rw [hL1] at he1 ⊢
    have he2 : (L1 ++ [(kf.length : Int)]) ++ (kf.flatMap fieldI ++ ((ks.drop (i + 1)).flatMap kindI ++ tail)) = R := by rw [← he1, List.append_assoc]
    refine AWP.thawIn (Y := X) (.next .here) (fun _ => .head .here) fun K => ?_
    have hb : ((L1.map iA).length + ([iA ((kf.map fieldA).length : Int)]).length) * 8 ≤ 140737488355328 := by have := bndA hl he2; simp at this ⊢; omega
    (repeat refine WF ?_); refine AWP.region ?_; (repeat (first | (refine AOps.gN ?_; first | (refine AOps.g_lit ?_; refine AOps.goL (iA (kf.map fieldA).length) ?_)) | refine WO ?_ | refine All.i fun X => ?_ | refine AllY.i fun Y => ?_)); refine AOps.nil ?_; (repeat refine WN ?_)
    have hrow : L1.map iA ++ [iA ((kf.map fieldA).length : Int)] = (L1 ++ [(kf.length : Int)]).map iA := by first | (rw [List.map_append, hkfm]; rfl) | rw [List.map_append, hkfm]
    rw [hrow]
    clear hrow hb
    refine AWP.closeIn (X := Y) (Y := X) .here (.next (.next .here)) rfl (by simp) (.head .here) ?_
    obtain ⟨T2, hT2⟩ : ∃ T2, (ks.drop (i + 1)).flatMap kindI ++ tail = T2 := ⟨_, rfl⟩
    rw [hT2] at he2
    clear he he1 hcn hL1 hin
    (repeat (first | refine WK ?_ | refine All.i fun X => ?_ | refine AllY.i fun Y => ?_))
    refine AWP.lp2 (fun (j : Nat) (L : List Int) => ⟨[(1, .fp (wdA false ⟨ks, gens, items⟩).cells), (3, .ptr X 0 0), (4, .fn 73 [.ptr X 0 0]), (19, kindsA false false ks), (20, iA (ks.map (kindA false)).length), (21, iA i), (36, fieldsA false kf), (37, iA (kf.map fieldA).length), (38, iA j)], (X, outO L) :: Sf⟩) (fun j L => j ≤ kf.length ∧ L ++ ((kf.drop j).flatMap fieldI ++ T2) = R) (fun j _ => kf.length - j) 0 (L1 ++ [(kf.length : Int)]) ⟨Nat.zero_le _, he2⟩ ?_
    clear he2 L1 L
    rintro j L ⟨hj, he⟩
    (repeat (first | refine WK ?_ | refine All.i fun X => ?_ | refine AllY.i fun Y => ?_))
    refine AWP.cond rfl (fun hd => ?_) (fun hd => ?_)
    · have h' : j < kf.length := by rw [decide_eq_true_eq, hkfm] at hd; omega
      obtain ⟨⟨fn, fb, fl⟩, hf⟩ : ∃ f, kf[j] = f := ⟨_, rfl⟩
      have hat2 : (kf.map fieldA)[j]? = some (fieldA ⟨fn, fb, fl⟩) := by rw [List.getElem?_map, List.getElem?_eq_getElem h', hf]; rfl
      rw [dropF h' hf, fieldI] at he
      dsimp only at he
      have he1 : (L ++ nameI fn) ++ ([fb, fl] ++ ((kf.drop (j + 1)).flatMap fieldI ++ T2)) = R := by rw [← he]; simp
      have hcn := intsName_po X L fn (bndA hl he1)
      (repeat refine WF ?_); refine AWP.region ?_; (repeat (first | refine WO ?_ | refine All.i fun V2 => ?_ | refine AllY.i fun Y => ?_)); refine AOps.nil ?_; (repeat refine WN ?_)
      (repeat refine WF ?_); refine AWP.region ?_; (repeat (first | (refine AOps.gN ?_; first | (refine AOps.g_callv ?_; first | refine AOps.zc1 (h := hcn) (hT := .frz) (k := ?_))) | refine WO ?_ | refine All.i fun X => ?_ | refine AllY.i fun Y => ?_)); refine AOps.nil ?_; (repeat refine WN ?_)
      obtain ⟨L1, hL1⟩ : ∃ L1, L ++ nameI fn = L1 := ⟨_, rfl⟩
      rw [hL1] at he1 ⊢
      have he2 : (L1 ++ [fb, fl]) ++ ((kf.drop (j + 1)).flatMap fieldI ++ T2) = R := by rw [← he1, List.append_assoc]
      refine AWP.thawIn (Y := X) (.next .here) (fun _ => .head .here) fun K => ?_
      have hb : ((L1.map iA).length + ([iA fb, iA fl]).length) * 8 ≤ 140737488355328 := by have := bndA hl he2; simp at this ⊢; omega
      (repeat refine WF ?_); refine AWP.region ?_; (repeat (first | refine WO ?_ | refine All.i fun X => ?_ | refine AllY.i fun Y => ?_)); refine AOps.nil ?_; (repeat refine WN ?_)
      have hrow : L1.map iA ++ [iA fb, iA fl] = (L1 ++ [fb, fl]).map iA := by first | (rw [List.map_append]; rfl) | rw [List.map_append]
      rw [hrow]
      clear hrow hb
      refine AWP.closeIn (X := Y) (Y := X) .here (.next (.next .here)) rfl (by simp) (.head .here) ?_
      (repeat (first | refine WK ?_ | refine All.i fun X => ?_ | refine AllY.i fun Y => ?_))
      refine lp_next2 (j + 1) _ ⟨h', he2⟩
    · have h' : j = kf.length := by rw [decide_eq_false_iff_not, hkfm] at hd; omega
      rw [h', List.drop_length] at he
      (repeat (first | refine WK ?_ | refine All.i fun X => ?_ | refine AllY.i fun Y => ?_))
      refine lp_next2 (i + 1) L ⟨h, by rw [hT2]; exact he⟩
  clear hin
  have h : i = ks.length := by rw [decide_eq_false_iff_not, hkm] at hc; omega
  rw [h, List.drop_length, ← htail] at he
  clear h hc hi
  have he2 : (L ++ [(gens.length : Int)]) ++ (gens ++ ((items.length : Int) :: items.flatMap itemI)) = R := by rw [← he]; simp
  (repeat first | refine AOps.nil ?_ | refine WF ?_)
  refine AWP.thawIn (Y := X) .here (fun _ => .head .here) fun K => ?_
  have hb : ((L.map iA).length + ([iA ((gens.map iA).length : Int)]).length) * 8 ≤ 140737488355328 := by have := bndA hl he2; simp at this ⊢; omega
  (repeat refine WF ?_); refine AWP.region ?_; (repeat (first | (refine AOps.gN ?_; first | (refine AOps.g_lit ?_; refine AOps.goL (iA (gens.map iA).length) ?_)) | refine WO ?_ | refine All.i fun X => ?_ | refine AllY.i fun Y => ?_)); refine AOps.nil ?_; (repeat refine WN ?_)
  have hrow : L.map iA ++ [iA ((gens.map iA).length : Int)] = (L ++ [(gens.length : Int)]).map iA := by first | (rw [List.map_append, hgm]; rfl) | rw [List.map_append, hgm]
  rw [hrow]
  clear hrow hb
  refine AWP.closeIn (X := Y) (Y := X) .here (.next .here) rfl (by simp) (.head .here) ?_
  obtain ⟨L1, hL1⟩ : ∃ L1, L ++ [(gens.length : Int)] = L1 := ⟨_, rfl⟩
  rw [hL1] at he2 ⊢
  have he3 : (L1 ++ gens) ++ ((items.length : Int) :: items.flatMap itemI) = R := by rw [← he2, List.append_assoc]
  refine AWP.thawIn (Y := X) (.next .here) (fun _ => .head .here) fun K => ?_
  have hb : ((L1.map iA).length + (gens.map iA).length) * 8 ≤ 140737488355328 := by have := bndA hl he3; simp at this ⊢; omega
  (repeat refine WF ?_); refine AWP.region ?_; (repeat (first | refine WO ?_ | refine All.i fun X => ?_ | refine AllY.i fun Y => ?_)); refine AOps.nil ?_; (repeat refine WN ?_)
  have hrow : L1.map iA ++ gens.map iA = (L1 ++ gens).map iA := by first | (rw [List.map_append]; rfl) | rw [List.map_append]
  rw [hrow]
  clear hrow hb
  refine AWP.closeIn (X := Y) (Y := X) .here (.next (.next .here)) rfl (by simp) (.head .here) ?_
  obtain ⟨L2, hL2⟩ : ∃ L2, L1 ++ gens = L2 := ⟨_, rfl⟩
  rw [hL2] at he3 ⊢
  have he4 : (L2 ++ [(items.length : Int)]) ++ items.flatMap itemI = R := by rw [← he3, List.append_assoc]; rfl
  refine AWP.thawIn (Y := X) (.next (.next .here)) (fun _ => .head .here) fun K => ?_
  have hb : ((L2.map iA).length + ([iA ((items.map (itemA false)).length : Int)]).length) * 8 ≤ 140737488355328 := by have := bndA hl he4; simp at this ⊢; omega
  (repeat refine WF ?_); refine AWP.region ?_; (repeat (first | (refine AOps.gN ?_; first | (refine AOps.g_lit ?_; refine AOps.goL (iA (items.map (itemA false)).length) ?_)) | refine WO ?_ | refine All.i fun X => ?_ | refine AllY.i fun Y => ?_)); refine AOps.nil ?_; (repeat refine WN ?_)
  have hrow : L2.map iA ++ [iA ((items.map (itemA false)).length : Int)] = (L2 ++ [(items.length : Int)]).map iA := by first | (rw [List.map_append, him]; rfl) | rw [List.map_append, him]
  rw [hrow]
  clear hrow hb
  refine AWP.closeIn (X := Y) (Y := X) .here (.next (.next (.next .here))) rfl (by simp) (.head .here) ?_
  clear he he2 he3 hL1 hL2 htail hk0 hk1
  (repeat (first | refine WK ?_ | refine All.i fun X => ?_ | refine AllY.i fun Y => ?_))
  refine AWP.lp2 (fun (i : Nat) (L : List Int) => ⟨[(1, .fp (wdA false ⟨ks, gens, items⟩).cells), (3, .ptr X 0 0), (72, itemsA false false items), (73, iA (items.map (itemA false)).length), (74, iA i)], (X, outO L) :: Sf⟩) (fun i L => i ≤ items.length ∧ L ++ (items.drop i).flatMap itemI = R) (fun i _ => items.length - i) 0 (L2 ++ [(items.length : Int)]) ⟨Nat.zero_le _, he4⟩ ?_
  clear he4 L2 L1 L
  rintro i L ⟨hi, he⟩
  (repeat (first | refine WK ?_ | refine All.i fun X => ?_ | refine AllY.i fun Y => ?_))
  refine AWP.cond rfl (fun hc => ?_) (fun hc => ?_)
  · have h : i < items.length := by rw [decide_eq_true_eq, him] at hc; omega
    obtain ⟨⟨⟨en, eg⟩, cs⟩, hit⟩ : ∃ it, items[i] = it := ⟨_, rfl⟩
    have hat : (items.map (itemA false))[i]? = some (itemA false ⟨⟨en, eg⟩, cs⟩) := by rw [List.getElem?_map, List.getElem?_eq_getElem h, hit]; rfl
    have hcl := hi1 _ (hit ▸ List.getElem_mem h)
    dsimp only at hcl
    obtain ⟨hcl0, hcl1⟩ := hcl
    have hcm : (cs.map (compA false)).length = cs.length := List.length_map _
    rw [dropF h hit, itemI] at he
    dsimp only at he
    have he2 : (L ++ [en, eg, (cs.length : Int)]) ++ (cs.flatMap compI ++ (items.drop (i + 1)).flatMap itemI) = R := by rw [← he]; simp
    (repeat refine WF ?_); refine AWP.region ?_; (repeat (first | refine WO ?_ | refine All.i fun V => ?_ | refine AllY.i fun Y => ?_)); refine AOps.nil ?_; (repeat refine WN ?_)
    refine AWP.thawIn (Y := X) (.next .here) (fun _ => .head .here) fun K => ?_
    have hb : ((L.map iA).length + ([iA en, iA eg, iA ((cs.map (compA false)).length : Int)]).length) * 8 ≤ 140737488355328 := by have := bndA hl he2; simp at this ⊢; omega
    (repeat refine WF ?_); refine AWP.region ?_; (repeat (first | refine WO ?_ | refine All.i fun X => ?_ | refine AllY.i fun Y => ?_)); refine AOps.nil ?_; (repeat refine WN ?_)
    have hrow : L.map iA ++ [iA en, iA eg, iA ((cs.map (compA false)).length : Int)] = (L ++ [en, eg, (cs.length : Int)]).map iA := by first | (rw [List.map_append, hcm]; rfl) | rw [List.map_append, hcm]
    rw [hrow]
    clear hrow hb
    refine AWP.closeIn (X := Y) (Y := X) .here (.next (.next .here)) rfl (by simp) (.head .here) ?_
    obtain ⟨T2, hT2⟩ : ∃ T2, (items.drop (i + 1)).flatMap itemI = T2 := ⟨_, rfl⟩
    rw [hT2] at he2
    (repeat (first | refine WK ?_ | refine All.i fun X => ?_ | refine AllY.i fun Y => ?_))
    refine AWP.lp2 (fun (j : Nat) (L : List Int) => ⟨[(1, .fp (wdA false ⟨ks, gens, items⟩).cells), (3, .ptr X 0 0), (72, itemsA false false items), (73, iA (items.map (itemA false)).length), (74, iA i), (91, compsA false false cs), (92, iA (cs.map (compA false)).length), (93, iA j)], (X, outO L) :: Sf⟩) (fun j L => j ≤ cs.length ∧ L ++ ((cs.drop j).flatMap compI ++ T2) = R) (fun j _ => cs.length - j) 0 _ ⟨Nat.zero_le _, he2⟩ ?_
    clear he2 he L
    rintro j L ⟨hj, he⟩
    (repeat (first | refine WK ?_ | refine All.i fun X => ?_ | refine AllY.i fun Y => ?_))
    refine AWP.cond rfl (fun hd => ?_) (fun hd => ?_)
    · have h' : j < cs.length := by rw [decide_eq_true_eq, hcm] at hd; omega
      obtain ⟨⟨ck, cv⟩, hf⟩ : ∃ c, cs[j] = c := ⟨_, rfl⟩
      have hat2 : (cs.map (compA false))[j]? = some (compA false ⟨ck, cv⟩) := by rw [List.getElem?_map, List.getElem?_eq_getElem h', hf]; rfl
      have hvm : (cv.map iA).length = cv.length := List.length_map _
      rw [dropF h' hf, compI] at he
      dsimp only at he
      have he2 : (L ++ [ck, (cv.length : Int)]) ++ (cv ++ ((cs.drop (j + 1)).flatMap compI ++ T2)) = R := by rw [← he]; simp
      (repeat refine WF ?_); refine AWP.region ?_; (repeat (first | refine WO ?_ | refine All.i fun V2 => ?_ | refine AllY.i fun Y => ?_)); refine AOps.nil ?_; (repeat refine WN ?_)
      refine AWP.thawIn (Y := X) (.next .here) (fun _ => .head .here) fun K => ?_
      have hb : ((L.map iA).length + ([iA ck, iA ((cv.map iA).length : Int)]).length) * 8 ≤ 140737488355328 := by have := bndA hl he2; simp at this ⊢; omega
      (repeat refine WF ?_); refine AWP.region ?_; (repeat (first | refine WO ?_ | refine All.i fun X => ?_ | refine AllY.i fun Y => ?_)); refine AOps.nil ?_; (repeat refine WN ?_)
      have hrow : L.map iA ++ [iA ck, iA ((cv.map iA).length : Int)] = (L ++ [ck, (cv.length : Int)]).map iA := by first | (rw [List.map_append, hvm]; rfl) | rw [List.map_append, hvm]
      rw [hrow]
      clear hrow hb
      refine AWP.closeIn (X := Y) (Y := X) .here (.next (.next .here)) rfl (by simp) (.head .here) ?_
      obtain ⟨L1, hL1⟩ : ∃ L1, L ++ [ck, (cv.length : Int)] = L1 := ⟨_, rfl⟩
      rw [hL1] at he2 ⊢
      have he3 : (L1 ++ cv) ++ ((cs.drop (j + 1)).flatMap compI ++ T2) = R := by rw [← he2, List.append_assoc]
      refine AWP.thawIn (Y := X) (.next (.next .here)) (fun _ => .head .here) fun K => ?_
      have hb : ((L1.map iA).length + (cv.map iA).length) * 8 ≤ 140737488355328 := by have := bndA hl he3; simp at this ⊢; omega
      (repeat refine WF ?_); refine AWP.region ?_; (repeat (first | refine WO ?_ | refine All.i fun X => ?_ | refine AllY.i fun Y => ?_)); refine AOps.nil ?_; (repeat refine WN ?_)
      have hrow : L1.map iA ++ cv.map iA = (L1 ++ cv).map iA := by first | (rw [List.map_append]; rfl) | rw [List.map_append]
      rw [hrow]
      clear hrow hb
      refine AWP.closeIn (X := Y) (Y := X) .here (.next (.next (.next .here))) rfl (by simp) (.head .here) ?_
      (repeat (first | refine WK ?_ | refine All.i fun X => ?_ | refine AllY.i fun Y => ?_))
      refine lp_next2 (j + 1) _ ⟨h', he3⟩
    · have h' : j = cs.length := by rw [decide_eq_false_iff_not, hcm] at hd; omega
      rw [h', List.drop_length] at he
      (repeat (first | refine WK ?_ | refine All.i fun X => ?_ | refine AllY.i fun Y => ?_))
      refine lp_next2 (i + 1) L ⟨h, by rw [hT2]; exact he⟩
  · have h : i = items.length := by rw [decide_eq_false_iff_not, him] at hc; omega
    rw [h, List.drop_length] at he
    have he : L = R := by simpa using he
    subst he
    refine AWP.thawIn (Y := X) .here (fun _ => .head .here) fun K => ?_
    (repeat (first | refine WK ?_ | refine All.i fun X => ?_ | refine AllY.i fun Y => ?_))
    (refine AWP.ret ?_; (repeat (first | refine inB_r ?_ | refine andThen_r ?_)); refine retQ_r ?_)
    exact ⟨[.sl K 0 (L.map iA).length], [intsA true L], _, [], .cons (.tmp rfl) rfl .nil, .cons (.cell (.sl (p := 0) .here rfl)) .nil, by exact Sub.f, rfl, rfl⟩
end Go.Proofs.Ytcnfcilfacgnnaa

namespace Go.Proofs.Ytcnfcilfacgnnaa
set_option linter.unusedVariables false
theorem base_wdL : WdL baseWd := by
  refine ⟨⟨by decide, ?_⟩, by decide, ⟨by decide, ?_⟩⟩
  · intro k hk
    rw [List.mem_singleton.1 hk]; decide
  · intro it hit
    rw [List.mem_singleton.1 hit]
    refine ⟨by decide, fun c hc => ?_⟩
    rw [List.mem_singleton.1 hc]; decide
theorem base_get : getOf baseWd ⟨0, 0⟩ 0 = ([9], 0) := by decide
set_option maxRecDepth 4000 in
theorem begun_ps : PS Try.prog 9 [] (bA true) := by
  have hg := get_ps baseWd ⟨0, 0⟩ 0 base_wdL
  rw [base_get] at hg
  have he : PS Try.prog 15 [intsA false [9], intsA false [9]] (bA true) := equalI_ps [9] [9] (by decide)
  have hi := ints_ps baseWd (by decide) base_wdL
  have hs := same_ps baseWd baseWd base_wdL
  rw [decide_eq_true rfl] at hs
  obtain ⟨R, hR⟩ : ∃ R, intsOf baseWd = R := ⟨_, rfl⟩
  have hRl : (0 : Int) < R.length := by rw [← hR]; decide
  rw [hR] at hi
  have hlen : decide ((0 : Int) < (R.map iA).length) = true := decide_eq_true (by rw [List.length_map]; exact hRl)
  refine Spec.of (nt := 27) (res := [.tmp 0]) Try.func9 rfl (by kernel_rfl) rfl rfl rfl fun Sf => ?_
  (repeat refine WF ?_); refine AWP.region ?_; (repeat (first | refine WO ?_ | refine All.i fun X => ?_ | refine AllY.i fun Y => ?_)); refine AOps.nil ?_; (repeat refine WN ?_)
  (repeat refine WF ?_); refine AWP.region ?_; (repeat (first | (refine AOps.gN ?_; first | (refine AOps.g_callf ?_; first | refine AOps.c0 (h := (base_ps ..)) (k := ?_) | refine AOps.c3 (h := (hg ..)) (k := ?_))) | refine WO ?_ | refine All.i fun X => ?_ | refine AllY.i fun Y => ?_)); refine AOps.nil ?_; (repeat refine WN ?_)
  (repeat (first | (refine AOps.gN ?_; first | (refine AOps.g_callf ?_; first | refine AOps.c2 (h := (he ..)) (k := ?_) | refine AOps.c0 (h := (base_ps ..)) (k := ?_) | refine AOps.c1 (h := (hi ..)) (k := ?_) | refine AOps.c2 (h := (hs ..)) (k := ?_))) | refine WK ?_ | refine All.i fun X => ?_ | refine AllY.i fun Y => ?_))
  (refine AWP.ret ?_; (repeat (first | refine inB_r ?_ | refine andThen_r ?_)); refine retQ_r ?_); refine Ends.ps ?_
  rfl
end Go.Proofs.Ytcnfcilfacgnnaa

namespace Go.Proofs.Ytcnfcilfacgnnaa
set_option linter.unusedVariables false
/-- The first i copied, the rest empty. -/
def kcpL (ks : List Kind) (i : Nat) : List AV := (ks.take i).map (kindA true) ++ List.replicate (ks.length - i) (.agg [sA [], .prim (.slice none 0 0)])
theorem kcpL_len (ks : List Kind) (i : Nat) (h : i ≤ ks.length) : (kcpL ks i).length = ks.length := by simp [kcpL]; omega
theorem kcpL_at {ks : List Kind} {i : Nat} (h : i < ks.length) : (kcpL ks i)[i]? = some (.agg [sA [], .prim (.slice none 0 0)]) := by
  unfold kcpL
  rw [List.getElem?_append_right (by simp; omega), List.getElem?_replicate, if_pos (by simp; omega)]
theorem kcpL_set {ks : List Kind} {i : Nat} (h : i < ks.length) : (kcpL ks i).set i (kindA true ks[i]) = kcpL ks (i + 1) := by
  unfold kcpL
  rw [List.set_append_right _ _ (by simp; omega), List.length_map, List.length_take, Nat.min_eq_left (by omega), Nat.sub_self]
  rw [show ks.length - i = (ks.length - (i + 1)) + 1 from by omega, List.replicate_succ, List.set_cons_zero]
  rw [List.take_succ_eq_append_getElem h, List.map_append, List.append_assoc]
  rfl
theorem kindCopy_ps (ks : List Kind) (hl : ks.length ≤ 1099511627776) (hf : ∀ k ∈ ks, k.fields.length ≤ 1099511627776) : PS Try.prog 91 [kindsA false false ks] (kindsA true true ks) := by
  refine Spec.of (nt := 27) (res := [.tmp 2]) Try.func91 rfl (by kernel_rfl) rfl rfl rfl fun Sf => ?_
  have hkm : (ks.map (kindA false)).length = ks.length := List.length_map _
  have hz0 : List.replicate (ks.map (kindA false)).length (.agg [sA [], .prim (.slice none 0 0)]) = kcpL ks 0 := by simp [kcpL]
  (repeat (first | (refine AOps.gN ?_; first | (refine AOps.g_make ?_; refine AOps.goM ((.agg [sA [], .prim (.slice none 0 0)])) fun K => ?_)) | refine WK ?_ | refine All.i fun X => ?_ | refine AllY.i fun Y => ?_))
  rw [hz0]
  refine AWP.lp2 (fun (i : Nat) (M : List AV) => ⟨[(3, .sl K 0 (ks.map (kindA false)).length), (9, kindsA false false ks), (10, iA (ks.map (kindA false)).length), (11, iA i)], (K, .row 43 2 M) :: Sf⟩) (fun i M => i ≤ ks.length ∧ M = kcpL ks i) (fun i _ => ks.length - i) 0 _ ⟨Nat.zero_le _, rfl⟩ ?_
  rintro i M ⟨hi, hM⟩
  (repeat (first | refine WK ?_ | refine All.i fun X => ?_ | refine AllY.i fun Y => ?_))
  refine AWP.cond rfl (fun hc => ?_) (fun hc => ?_)
  · have h : i < ks.length := by rw [decide_eq_true_eq, hkm] at hc; omega
    have hset := kcpL_set h
    have hMat : M[i]? = some (.agg [sA [], .prim (.slice none 0 0)]) := by rw [hM]; exact kcpL_at h
    have hMl : M.length = ks.length := by rw [hM]; exact kcpL_len ks i hi
    have hfl := hf _ (List.getElem_mem h)
    obtain ⟨⟨kn, fs⟩, hk⟩ : ∃ k, ks[i] = k := ⟨_, rfl⟩
    rw [hk] at hset hfl
    dsimp only at hfl
    have hat : (ks.map (kindA false))[i]? = some (kindA false ⟨kn, fs⟩) := by rw [List.getElem?_map, List.getElem?_eq_getElem h, hk]; rfl
    have hil : i < (ks.map (kindA false)).length := by omega
    have hfm : (fs.map fieldA).length = fs.length := List.length_map _
    (repeat (first | refine WK ?_ | refine All.i fun V => ?_ | refine AllY.i fun Y => ?_))
    refine AWP.rs fun Y => ?_
    (repeat refine WF ?_); refine AWP.region_run (by kernel_rfl) (by kernel_rfl) ?_; (repeat (first | (refine RGo.gN ?_; first | refine RGo.s (W.appN (by rw [hfm]; omega) (by rw [hfm]; unfold maxLen; omega) rfl rfl (by exact At.f)) rfl ?_) | (refine RGo.gQ ?_; first | refine RGo.s (W.appN (by rw [hfm]; omega) (by rw [hfm]; unfold maxLen; omega) rfl rfl (by exact At.f)) rfl ?_) | refine RK ?_ | refine RGo.nil (by kernel_rfl) ?_))
    (repeat refine WF ?_)
    have hMs : (M.set i (.agg [sA kn, .sl Y 0 (fs.map fieldA).length]))[i]? = some (.agg [sA kn, .sl Y 0 (fs.map fieldA).length]) := by rw [List.getElem?_set_self (by omega)]
    refine AWP.closeIn (X := Y) (Y := K) .here (.next (.next .here)) rfl rfl (Hos.at hMs (.agg (.tail (.head .here)))) ?_
    rw [List.set_set]
    (repeat (first | refine WK ?_ | refine All.i fun X => ?_ | refine AllY.i fun Y => ?_))
    refine lp_next2 (i + 1) _ ⟨h, ?_⟩
    rw [hM]; exact hset
  · have h : i = ks.length := by rw [decide_eq_false_iff_not, hkm] at hc; omega
    subst h
    have hfin : kcpL ks ks.length = ks.map (kindA true) := by simp [kcpL]
    rw [hfin] at hM
    subst hM
    (repeat (first | refine WK ?_ | refine All.i fun X => ?_ | refine AllY.i fun Y => ?_))
    (refine AWP.ret ?_; (repeat (first | refine inB_r ?_ | refine andThen_r ?_)); refine retQ_r ?_)
    exact ⟨[.sl K 0 (ks.map (kindA false)).length], [kindsA true true ks], _, [], .cons (.tmp rfl) rfl .nil, .cons (.cell (.sl (p := 0) .here (by simp))) .nil, by exact Sub.f, rfl, rfl⟩
end Go.Proofs.Ytcnfcilfacgnnaa

namespace Go.Proofs.Ytcnfcilfacgnnaa
set_option linter.unusedVariables false
/-- A list that is filled from the left: the first i of l, then z. -/
def fillTo {α : Type} (f : α → AV) (z : AV) (l : List α) (i : Nat) : List AV := (l.take i).map f ++ List.replicate (l.length - i) z
theorem fillTo_zero {α : Type} (f : α → AV) (z : AV) (l : List α) : fillTo f z l 0 = List.replicate l.length z := by simp [fillTo]
theorem fillTo_len {α : Type} (f : α → AV) (z : AV) (l : List α) (i : Nat) (h : i ≤ l.length) : (fillTo f z l i).length = l.length := by simp [fillTo]; omega
theorem fillTo_at {α : Type} (f : α → AV) (z : AV) (l : List α) {i : Nat} (h : i < l.length) : (fillTo f z l i)[i]? = some z := by
  unfold fillTo
  rw [List.getElem?_append_right (by simp; omega)]
  simp only [List.length_map, List.length_take, Nat.min_eq_left (Nat.le_of_lt h), Nat.sub_self]
  rw [List.getElem?_replicate, if_pos (by omega)]
theorem fillTo_set {α : Type} (f : α → AV) (z : AV) (l : List α) {i : Nat} (h : i < l.length) : (fillTo f z l i).set i (f l[i]) = fillTo f z l (i + 1) := by
  unfold fillTo
  rw [List.set_append_right _ _ (by simp; omega), List.take_add_one, List.getElem?_eq_getElem h]
  simp only [List.length_map, List.length_take, Nat.min_eq_left (Nat.le_of_lt h), Nat.sub_self, Option.toList_some, List.map_append, List.map_cons, List.map_nil, List.append_assoc]
  congr 1
  rw [show l.length - i = (l.length - (i + 1)) + 1 from by omega, List.replicate_succ]
  rfl
theorem fillTo_all {α : Type} (f : α → AV) (z : AV) (l : List α) {i : Nat} (h : l.length ≤ i) : fillTo f z l i = l.map f := by
  unfold fillTo
  rw [List.take_of_length_le h, show l.length - i = 0 from by omega]
  simp
theorem copyComps_ps (l : List Comp) (hl : l.length ≤ 1099511627776) (hv : ∀ c ∈ l, c.vals.length ≤ 1099511627776) : PS Try.prog 92 [compsA false false l] (compsA true false l) := by
  refine Spec.of (nt := 27) (res := [.tmp 2]) Try.func92 rfl (by kernel_rfl) rfl rfl rfl fun Sf => ?_
  have hl' : (l.map (compA false)).length ≤ 1099511627776 := by simpa using hl
  (repeat (first | (refine AOps.gN ?_; first | (refine AOps.g_make ?_; refine AOps.goM (.agg [iA 0, .prim (.slice none 0 0)]) fun K => ?_)) | refine WK ?_ | refine All.i fun X => ?_ | refine AllY.i fun Y => ?_))
  refine AWP.lp (fun i : Nat => ⟨[(3, .sl K 0 (l.map (compA false)).length), (9, compsA false false l), (10, iA (l.map (compA false)).length), (11, iA i)], (K, .row 34 2 (fillTo (compA false) (.agg [iA 0, .prim (.slice none 0 0)]) l i)) :: Sf⟩) (fun i => i ≤ l.length) (fun i => l.length - i) 0 (Nat.zero_le _) ?_ ⟨by (repeat (first | exact .nil | refine .cons (by first | rfl | assumption) ?_)), by rw [fillTo_zero, ← List.length_map (f := compA false)]; exact Sub.f⟩
  rintro i hi
  (repeat (first | refine WK ?_ | refine All.i fun X => ?_ | refine AllY.i fun Y => ?_))
  refine AWP.cond rfl (fun hc => ?_) (fun hc => ?_)
  · have h : i < l.length := by simpa using hc
    have hm : i < (l.map (compA false)).length := by simpa using h
    have hat := fillTo_at (compA false) (.agg [iA 0, .prim (.slice none 0 0)]) l h
    (repeat (first | refine WK ?_ | refine All.i fun X => ?_ | refine AllY.i fun Y => ?_))
    (repeat refine WF ?_); refine AWP.region_run (by kernel_rfl) (by kernel_rfl) ?_; (repeat (first | (refine RGo.gN ?_; first | (refine RGo.g_callf ?_; first | refine RGo.c1 (h := (cloneI_ps _ (by have := hv _ (List.getElem_mem h); omega))) (k := ?_))) | (refine RGo.gQ ?_; first | (refine RGo.g_callf ?_; first | refine RGo.c1 (h := (cloneI_ps _ (by have := hv _ (List.getElem_mem h); omega))) (k := ?_))) | refine RK ?_ | refine RGo.nil (by kernel_rfl) ?_))
    (repeat (first | refine WK ?_ | refine All.i fun X => ?_ | refine AllY.i fun Y => ?_))
    have hs := fillTo_set (compA false) (.agg [iA 0, .prim (.slice none 0 0)]) l h
    refine lp_nextS (i + 1) h ?_
    dsimp only
    rw [← hs]
    exact Sub.f
  · have h : l.length ≤ i := by rw [decide_eq_false_iff_not, List.length_map] at hc; omega
    rw [fillTo_all _ _ _ h]
    (repeat (first | refine WK ?_ | refine All.i fun X => ?_ | refine AllY.i fun Y => ?_))
    (refine AWP.ret ?_; (repeat (first | refine inB_r ?_ | refine andThen_r ?_)); refine retQ_r ?_)
    exact ⟨[.sl K 0 (l.map (compA false)).length], [.lst true 34 2 (l.map (compA false))], _, [], .cons (.tmp rfl) rfl .nil, .cons (.cell (.sl (p := 0) .here rfl)) .nil, by exact Sub.f, rfl, rfl⟩
end Go.Proofs.Ytcnfcilfacgnnaa

namespace Go.Proofs.Ytcnfcilfacgnnaa
set_option linter.unusedVariables false
/-- An item whose list of components is its own. -/
def itemB (x : Item) : AV := .agg [iA x.ent.n, iA x.ent.gen, compsA true false x.comps]
instance {x : Item} : Frz (itemB x) (itemA false x) := ⟨by unfold itemB itemA; exact Frz.h⟩
abbrev itemsB (o : Bool) (l : List Item) : AV := .lst o 48 3 (l.map itemB)
/-- A world whose lists are its own. -/
def wdCp (w : Wd) : AV := .agg [kindsA true true w.kinds, intsA true w.gens, itemsB true w.items]
abbrev itemZ : AV := .agg [iA 0, iA 0, .prim (.slice none 0 0)]
set_option maxRecDepth 8000 in
set_option maxHeartbeats 2000000 in
theorem copy_ps (w : Wd) (hw : WdL w) : PS Try.prog 51 [wdA false w] (wdCp w) := by
  obtain ⟨ks, gens, items⟩ := w
  obtain ⟨⟨hk0, hk1⟩, hg, hi0, hi1⟩ := hw
  dsimp only at hk0 hk1 hg hi0 hi1
  have hkc := kindCopy_ps ks hk0 hk1
  have hgc := cloneI_ps gens (by omega)
  have hgm : (gens.map iA).length = gens.length := List.length_map _
  have him : (items.map (itemA false)).length = items.length := List.length_map _
  refine Spec.of (nt := 37) (res := [.cell 2 26]) Try.func51 rfl (by kernel_rfl) rfl rfl rfl fun Sf => ?_
  (repeat refine WF ?_); refine AWP.region ?_; (repeat (first | (refine AOps.gN ?_; first | (refine AOps.g_box ?_; refine AOps.goB ?_)) | refine WO ?_ | refine All.i fun R => ?_ | refine AllY.i fun Y => ?_)); refine AOps.nil ?_; (repeat refine WN ?_)
  (repeat refine WF ?_)
  refine AWP.rs fun W3 => AWP.rs fun I => AWP.rs fun G => AWP.rs fun K => ?_
  (repeat refine WF ?_); refine AWP.region_run (by kernel_rfl) (by kernel_rfl) ?_; (repeat (first | (refine RGo.gN ?_; first | refine RGo.t1 (h := hkc) (k := ?_) | refine RGo.t1 (h := hgc) (k := ?_) | refine RGo.s (W.make rfl rfl (by exact At.f) rfl (.inl rfl) rfl rfl (Nat.le_refl _) (by rw [him]; omega) (by rw [him]; unfold maxLen; omega)) rfl ?_) | (refine RGo.gQ ?_; first | refine RGo.t1 (h := hkc) (k := ?_) | refine RGo.t1 (h := hgc) (k := ?_) | refine RGo.s (W.make rfl rfl (by exact At.f) rfl (.inl rfl) rfl rfl (Nat.le_refl _) (by rw [him]; omega) (by rw [him]; unfold maxLen; omega)) rfl ?_) | refine RK ?_ | refine RGo.nil (by kernel_rfl) ?_))
  have hz0 : List.replicate (items.map (itemA false)).length (zAV [.int .i64 0, .int .i64 0, .slice none 0 0] true) = fillTo itemB itemZ items 0 := by rw [fillTo_zero, him]; rfl
  rw [hz0]
  (repeat first | refine AOps.nil ?_ | refine WF ?_)
  (repeat refine WF ?_); refine AWP.region ?_; (repeat (first | refine WO ?_ | refine All.i fun X => ?_ | refine AllY.i fun Y => ?_)); refine AOps.nil ?_; (repeat refine WN ?_)
  (repeat first | refine AOps.nil ?_ | refine WF ?_)
  refine AWP.lp2 (fun (i : Nat) (M : List AV) => ⟨[(2, .ptr R 0 0), (3, .ptr W3 0 0), (18, itemsA false false items), (19, iA (items.map (itemA false)).length), (20, iA i)], (K, .row 43 2 (ks.map (kindA true))) :: (G, .row 3 1 (gens.map iA)) :: (I, .row 48 3 M) :: (W3, .row 26 3 [.agg [.sl K 0 (ks.map (kindA true)).length, .sl G 0 (gens.map iA).length, .sl I 0 (items.map (itemA false)).length]]) :: (R, .row 26 3 [.agg [.prim (.slice none 0 0), .prim (.slice none 0 0), .prim (.slice none 0 0)]]) :: Sf⟩) (fun i M => i ≤ items.length ∧ M = fillTo itemB itemZ items i) (fun i _ => items.length - i) 0 _ ⟨Nat.zero_le _, rfl⟩ ?_
  rintro i M ⟨hi, hM⟩
  (repeat (first | refine WK ?_ | refine All.i fun X => ?_ | refine AllY.i fun Y => ?_))
  refine AWP.cond rfl (fun hc => ?_) (fun hc => ?_)
  · have h : i < items.length := by rw [decide_eq_true_eq, him] at hc; omega
    have hset := fillTo_set itemB itemZ items h
    have hMat : M[i]? = some itemZ := by rw [hM]; exact fillTo_at _ _ _ h
    have hMl : M.length = items.length := by rw [hM]; exact fillTo_len _ _ _ _ hi
    have hcl := hi1 _ (List.getElem_mem h)
    obtain ⟨⟨⟨en, eg⟩, cs⟩, hit⟩ : ∃ it, items[i] = it := ⟨_, rfl⟩
    rw [hit] at hset hcl
    have hat : (items.map (itemA false))[i]? = some (itemA false ⟨⟨en, eg⟩, cs⟩) := by rw [List.getElem?_map, List.getElem?_eq_getElem h, hit]; rfl
    have hil : i < (items.map (itemA false)).length := by omega
    have hcc := copyComps_ps cs hcl.1 hcl.2
    have hcm : (cs.map (compA false)).length = cs.length := List.length_map _
    (repeat (first | refine WK ?_ | refine All.i fun V => ?_ | refine AllY.i fun Y => ?_))
    refine AWP.rs fun Y => ?_
    (repeat refine WF ?_); refine AWP.region_run (by kernel_rfl) (by kernel_rfl) ?_; (repeat (first | (refine RGo.gN ?_; first | refine RGo.t1 (h := hcc) (k := ?_)) | (refine RGo.gQ ?_; first | refine RGo.t1 (h := hcc) (k := ?_)) | refine RK ?_ | refine RGo.nil (by kernel_rfl) ?_))
    (repeat refine WF ?_)
    have hMs : (M.set i (.agg [iA en, iA eg, .sl Y 0 (cs.map (compA false)).length]))[i]? = some (.agg [iA en, iA eg, .sl Y 0 (cs.map (compA false)).length]) := by rw [List.getElem?_set_self (by omega)]
    refine AWP.closeIn (X := Y) (Y := I) (by exact At.f) (by exact At.f) rfl rfl (Hos.at hMs (.agg (.tail (.tail (.head .here))))) ?_
    rw [List.set_set]
    (repeat (first | refine WK ?_ | refine All.i fun X => ?_ | refine AllY.i fun Y => ?_))
    refine lp_next2 (i + 1) _ ⟨h, ?_⟩
    rw [hM]; exact hset
  · have h : i = items.length := by rw [decide_eq_false_iff_not, him] at hc; omega
    subst h
    rw [fillTo_all _ _ _ (Nat.le_refl _)] at hM
    subst hM
    have hkl : (ks.map (kindA true)).length = (ks.map (kindA true)).length := rfl
    have hI : (items.map (itemA false)).length = (items.map itemB).length := by simp
    (repeat (first | refine WK ?_ | refine All.i fun X => ?_ | refine AllY.i fun Y => ?_))
    (refine AWP.ret ?_; (repeat (first | refine inB_r ?_ | refine andThen_r ?_)); refine retQ_r ?_)
    exact ⟨[.agg [.sl K 0 (ks.map (kindA true)).length, .sl G 0 (gens.map iA).length, .sl I 0 (items.map (itemA false)).length]], [wdCp ⟨ks, gens, items⟩], _, [], .cons (.cell (p := 4) rfl (by exact At.f) TAg.h TSize.h rfl rfl) rfl .nil, .cons (.agg (.cons (.sl (p := 0) .here rfl) (.cons (.sl (p := 0) .here rfl) (.cons (.sl (p := 0) .here hI) .nil)))) .nil, by exact Sub.f, rfl, rfl⟩
end Go.Proofs.Ytcnfcilfacgnnaa

namespace Go.Proofs.Ytcnfcilfacgnnaa
set_option linter.unusedVariables false
abbrev wdE : Wd := ⟨[], [], []⟩
/-- What world.found returns. -/
def foundOf (w : Wd) (e : Ent) : Wd × Int × Int :=
  if wdErr w ≠ 0 then (wdE, 0, wdErr w) else if findE w.items e < 0 then (wdE, 0, 4) else (w, findE w.items e, 0)
theorem found_ps (w : Wd) (e : Ent) (hw : WdL w) : PS Try.prog 42 [wdA false w, entA e] (.tup [wdCp (foundOf w e).1, iA (foundOf w e).2.1, iA (foundOf w e).2.2]) := by
  have hck := check_ps' w hw.gens hw.items.1 (fun it hit => (hw.items.2 it hit).1)
  have hfd := find_ps' w e (by have := hw.items.1; omega)
  have hcp := copy_ps w hw
  obtain ⟨r, hr⟩ : ∃ r, foundOf w e = r := ⟨_, rfl⟩
  rw [hr]
  unfold foundOf at hr
  obtain ⟨we, hwe⟩ : ∃ we, wdErr w = we := ⟨_, rfl⟩
  rw [hwe] at hck hr
  refine Spec.of (nt := 24) (res := [.cell 4 26, .tmp 5, .tmp 6]) Try.func42 rfl (by kernel_rfl) rfl rfl rfl fun Sf => ?_
  (repeat refine WF ?_); refine AWP.region ?_; (repeat (first | (refine AOps.gN ?_; first | (refine AOps.g_box ?_; refine AOps.goB ?_)) | refine WO ?_ | refine All.i fun R => ?_ | refine AllY.i fun Y => ?_)); refine AOps.nil ?_; (repeat refine WN ?_)
  (repeat refine WF ?_); refine AWP.region ?_; (repeat (first | (refine AOps.gN ?_; first | (refine AOps.g_callf ?_; first | refine AOps.c1 (h := (hck ..)) (k := ?_))) | refine WO ?_ | refine All.i fun X => ?_ | refine AllY.i fun Y => ?_)); refine AOps.nil ?_; (repeat refine WN ?_)
  (repeat refine WF ?_); refine AWP.region ?_; (repeat (first | refine WO ?_ | refine All.i fun X => ?_ | refine AllY.i fun Y => ?_)); refine AOps.nil ?_; (repeat refine WN ?_)
  refine AWP.cond rfl (fun hd => ?_) (fun hd => ?_)
  · have hd : we ≠ 0 := by simpa using hd
    rw [if_pos hd] at hr
    subst hr
    (repeat (first | refine WK ?_ | refine All.i fun X => ?_ | refine AllY.i fun Y => ?_))
    (refine AWP.ret ?_; (repeat (first | refine inB_r ?_ | refine andThen_r ?_)); refine retQ_r ?_)
    exact Ends.cv [.agg [.prim (.slice none 0 0), .prim (.slice none 0 0), .prim (.slice none 0 0)], iA 0, iA we] [wdCp wdE, iA 0, iA we] (.cons (.agg (.cons .nil (.cons .nil (.cons .nil .nil)))) (.cons (.cell .same) (.cons (.cell .same) .nil)))
  have hd : we = 0 := by simpa using hd
  rw [if_neg (by simp [hd])] at hr
  (repeat refine WF ?_); refine AWP.region ?_; (repeat (first | (refine AOps.gN ?_; first | (refine AOps.g_callf ?_; first | refine AOps.c2 (h := (hfd ..)) (k := ?_))) | refine WO ?_ | refine All.i fun X => ?_ | refine AllY.i fun Y => ?_)); refine AOps.nil ?_; (repeat refine WN ?_)
  (repeat (first | refine WK ?_ | refine All.i fun X => ?_ | refine AllY.i fun Y => ?_))
  refine AWP.cond rfl (fun hg => ?_) (fun hg => ?_)
  · have hg : findE w.items e < 0 := by simpa using hg
    rw [if_pos hg] at hr
    subst hr
    (repeat (first | refine WK ?_ | refine All.i fun X => ?_ | refine AllY.i fun Y => ?_))
    (refine AWP.ret ?_; (repeat (first | refine inB_r ?_ | refine andThen_r ?_)); refine retQ_r ?_)
    exact Ends.cv [.agg [.prim (.slice none 0 0), .prim (.slice none 0 0), .prim (.slice none 0 0)], iA 0, iA 4] [wdCp wdE, iA 0, iA 4] (.cons (.agg (.cons .nil (.cons .nil (.cons .nil .nil)))) (.cons (.cell .same) (.cons (.cell .same) .nil)))
  have hg : ¬ findE w.items e < 0 := by simpa using hg
  rw [if_neg hg] at hr
  subst hr
  refine AWP.rs fun I => AWP.rs fun G => AWP.rs fun K => ?_
  (repeat (first | (refine AOps.gN ?_; first | (refine AOps.g_callf ?_; first | refine AOps.z1 (h := hcp) (hT := .v (.agg (.cons (.lst (Y := K) rfl) (.cons (.lst (Y := G) rfl) (.cons (.lst (Y := I) rfl) .nil))))) (k := ?_))) | refine WK ?_ | refine All.i fun X => ?_ | refine AllY.i fun Y => ?_))
  (refine AWP.ret ?_; (repeat (first | refine inB_r ?_ | refine andThen_r ?_)); refine retQ_r ?_)
  exact Ends.cv [.agg [.sl K 0 (w.kinds.map (kindA true)).length, .sl G 0 (w.gens.map iA).length, .sl I 0 (w.items.map itemB).length], iA _, iA 0] [wdCp w, iA _, iA 0] (.cons (.agg (.cons (.sl (p := 0) .here rfl) (.cons (.sl (p := 0) .here rfl) (.cons (.sl (p := 0) .here rfl) .nil)))) (.cons (.cell .same) (.cons (.cell .same) .nil)))
theorem TW.fz {a b : AV} [h : Frz a b] : TW a b [] := h.h ▸ .frz
theorem TV.pr {u : Value} : TV (.prim u) (.prim u) [] := .cell .frz rfl rfl
/-- A world whose lists are its own, with items that nobody writes any more. -/
def wdF (w : Wd) : AV := .agg [kindsA true true w.kinds, intsA true w.gens, itemsA true false w.items]
instance {w : Wd} : Frz (wdF w) (wdA false w) := ⟨by unfold wdF wdA; exact Frz.h⟩
theorem items_frzB (l : List Item) : AV.frzs (l.map itemB) = l.map (itemA false) := (inferInstance : Frzs (l.map itemB) (l.map (itemA false))).h
theorem comp_free (c : Comp) : FreeE (compA false c) := .agg fun x hx => by
  simp only [List.mem_cons, List.not_mem_nil, or_false] at hx
  rcases hx with rfl | rfl
  · exact .prim _
  · exact fun m c bs k => k.1
theorem item_free (c : Item) : FreeE (itemA false c) := .agg fun x hx => by
  simp only [List.mem_cons, List.not_mem_nil, or_false] at hx
  rcases hx with rfl | rfl | rfl
  · exact .prim _
  · exact .prim _
  · exact fun m c bs k => k.1
theorem items_free (l : List Item) : FreeL (l.map (itemA false)) := fun x hx => by obtain ⟨y, _, rfl⟩ := List.mem_map.1 hx; exact item_free y
theorem items_wid (l : List Item) : ∀ x ∈ l.map (itemA false), x.width = 3 := fun x hx => by obtain ⟨y, _, rfl⟩ := List.mem_map.1 hx; rfl
end Go.Proofs.Ytcnfcilfacgnnaa

namespace Go.Proofs.Ytcnfcilfacgnnaa
set_option linter.unusedVariables false
theorem eraseIdx_parts {α : Type} {l : List α} {i : Nat} (h : i < l.length) (z : List α) : (l.take i ++ (l.drop (i + 1)).take (l.length - (i + 1)) ++ z).take (i + (l.length - (i + 1))) = l.eraseIdx i := by
  rw [List.take_of_length_le (l := l.drop (i + 1)) (by rw [List.length_drop]; omega), List.eraseIdx_eq_take_drop_succ]
  rw [List.take_append_of_le_length (by simp; omega), List.take_of_length_le (by simp; omega)]
end Go.Proofs.Ytcnfcilfacgnnaa

namespace Go.Proofs.Ytcnfcilfacgnnaa
set_option linter.unusedVariables false
theorem deleteT_sp (X n i : Nat) (l : List AV) (hn : n = l.length) (hi : i < n) (hl : n ≤ 1099511627776) (hfr : FreeL l) (hw : ∀ e ∈ l, e.width = 3) :
    Spec Try.prog 28 [.sl X 0 n, iA i, iA ((i : Int) + 1)] [(X, .row 48 3 l)] fun r S' => r = .lst true 48 3 (l.eraseIdx i) ∧ S' = [] := by
  subst hn
  refine Spec.of (nt := 33) (res := [.tmp 6]) Try.func28 rfl (by kernel_rfl) rfl rfl rfl fun Sf => ?_
  have h1 : ((i : Int) + 1) = ((i + 1 : Nat) : Int) := by omega
  (repeat refine WF ?_); refine AWP.region ?_; (repeat (first | refine WO ?_ | refine All.i fun X => ?_ | refine AllY.i fun Y => ?_)); refine AOps.nil ?_; (repeat refine WN ?_)
  (repeat refine WF ?_); refine AWP.region ?_; (repeat (first | (refine AOps.gN ?_; first | refine AOps.p (W.slice3 (lo := i) (hi := i + 1) (mx := l.length) rfl rfl rfl rfl (by exact At.f) rfl h1 rfl (by omega) (by omega) (Nat.le_refl _)) rfl ?_) | refine WO ?_ | refine All.i fun X => ?_ | refine AllY.i fun Y => ?_)); refine AOps.nil ?_; (repeat refine WN ?_)
  (repeat refine WF ?_); refine AWP.region ?_; (repeat (first | refine WO ?_ | refine All.i fun X => ?_ | refine AllY.i fun Y => ?_)); refine AOps.nil ?_; (repeat refine WN ?_)
  refine AWP.cond_f rfl (decide_eq_false (by omega)) ?_
  (repeat refine WF ?_); refine AWP.region ?_; (repeat (first | refine WO ?_ | refine All.i fun X => ?_ | refine AllY.i fun Y => ?_)); refine AOps.nil ?_; (repeat refine WN ?_)
  have hel : (l.eraseIdx i).length = l.length - 1 := List.length_eraseIdx_of_lt hi
  rcases Nat.lt_or_ge (i + 1) l.length with hj | hj
  · have hp := eraseIdx_parts hi
    (repeat refine WF ?_); refine AWP.region_run (by kernel_rfl) (by kernel_rfl) ?_; (repeat (first | (refine RGo.gN ?_; first | refine RGo.p (W.hi rfl rfl (by exact At.f) rfl (by omega)) rfl ?_ | refine RGo.p (W.slice_lo (lo := i + 1) rfl rfl (by exact At.f) h1 (by omega)) rfl ?_ | refine RGo.s (W.appS (l.length - (i + 1)) (by omega) (by omega) (by omega) hfr hw rfl rfl (by exact At.f)) rfl ?_) | (refine RGo.gQ ?_; first | refine RGo.p (W.hi rfl rfl (by exact At.f) rfl (by omega)) rfl ?_ | refine RGo.p (W.slice_lo (lo := i + 1) rfl rfl (by exact At.f) h1 (by omega)) rfl ?_ | refine RGo.s (W.appS (l.length - (i + 1)) (by omega) (by omega) (by omega) hfr hw rfl rfl (by exact At.f)) rfl ?_) | refine RK ?_ | refine RGo.nil (by kernel_rfl) ?_))
    rw [Nat.zero_add]
    have hln : i + (l.length - (i + 1)) = l.length - 1 := by omega
    have hLl : (l.take i ++ (l.drop (i + 1)).take (l.length - (i + 1)) ++ l.drop (i + (l.length - (i + 1)))).length = l.length := by simp only [List.length_append, List.length_take, List.length_drop]; omega
    have hLp := hp (l.drop (i + (l.length - (i + 1))))
    obtain ⟨L', hL'⟩ : ∃ L', l.take i ++ (l.drop (i + 1)).take (l.length - (i + 1)) ++ l.drop (i + (l.length - (i + 1))) = L' := ⟨_, rfl⟩
    rw [hL'] at hLl hLp ⊢
    have key : ∀ Z D, ((L'.take (i + (l.length - (i + 1))) ++ Z) ++ D).take (i + (l.length - (i + 1))) = l.eraseIdx i := fun Z D => by
      rw [List.append_assoc, List.take_append_of_le_length (by rw [List.length_take]; omega), List.take_take, Nat.min_self, hLp]
    (repeat refine WF ?_); refine AWP.region ?_; (repeat (first | (refine AOps.gN ?_; first | refine AOps.p (W.lohi (lo := i + (l.length - (i + 1))) (hi := l.length) rfl rfl rfl (by exact At.f) rfl rfl (by omega) (by omega)) rfl ?_ | refine AOps.s (W.clear rfl (by exact At.f) (by first | exact .inl rfl | exact .inr rfl) rfl (by omega)) rfl ?_) | refine WO ?_ | refine All.i fun X => ?_ | refine AllY.i fun Y => ?_)); refine AOps.nil ?_; (repeat refine WN ?_)
    (repeat refine WF ?_); refine AWP.region ?_; (repeat (first | refine WO ?_ | refine All.i fun X => ?_ | refine AllY.i fun Y => ?_)); refine AOps.nil ?_; (repeat refine WN ?_)
    refine AWP.shrink (X := X) (i + (l.length - (i + 1))) ?_
    rw [Nat.zero_add, key]
    (refine AWP.ret ?_; (repeat (first | refine inB_r ?_ | refine andThen_r ?_)); refine retQ_r ?_)
    exact ⟨[.sl X 0 (i + (l.length - (i + 1)))], [.lst true 48 3 (l.eraseIdx i)], _, [], .cons (.tmp rfl) rfl .nil, .cons (.cell (.sl (p := 0) .here (by rw [hel]; omega))) .nil, by exact Sub.f, rfl, rfl⟩
  · have hie : i = l.length - 1 := by omega
    have hl0 : l.length - (i + 1) = 0 := by omega
    have hle : l.eraseIdx i = l.take i := by rw [List.eraseIdx_eq_take_drop_succ, List.drop_of_length_le (by omega), List.append_nil]
    have key : ∀ Z D, ((l.take i ++ Z) ++ D).take i = l.eraseIdx i := fun Z D => by
      rw [List.append_assoc, List.take_append_of_le_length (by rw [List.length_take]; omega), List.take_take, Nat.min_self, hle]
    (repeat refine WF ?_); refine AWP.region_run (by kernel_rfl) (by kernel_rfl) ?_; (repeat (first | (refine RGo.gN ?_; first | refine RGo.p (W.hi rfl rfl (by exact At.f) rfl (by omega)) rfl ?_ | (refine RGo.p (W.slice_lo (lo := i + 1) rfl rfl (by exact At.f) h1 (by omega)) rfl ?_; rw [hl0]) | refine RGo.p (W.app0 rfl rfl (by exact At.f)) rfl ?_) | (refine RGo.gQ ?_; first | refine RGo.p (W.hi rfl rfl (by exact At.f) rfl (by omega)) rfl ?_ | (refine RGo.p (W.slice_lo (lo := i + 1) rfl rfl (by exact At.f) h1 (by omega)) rfl ?_; rw [hl0]) | refine RGo.p (W.app0 rfl rfl (by exact At.f)) rfl ?_) | refine RK ?_ | refine RGo.nil (by kernel_rfl) ?_))
    (repeat refine WF ?_); refine AWP.region ?_; (repeat (first | (refine AOps.gN ?_; first | refine AOps.p (W.lohi (lo := i) (hi := l.length) rfl rfl rfl (by exact At.f) rfl rfl (by omega) (by omega)) rfl ?_ | refine AOps.s (W.clear rfl (by exact At.f) (by first | exact .inl rfl | exact .inr rfl) rfl (by omega)) rfl ?_) | refine WO ?_ | refine All.i fun X => ?_ | refine AllY.i fun Y => ?_)); refine AOps.nil ?_; (repeat refine WN ?_)
    (repeat refine WF ?_); refine AWP.region ?_; (repeat (first | refine WO ?_ | refine All.i fun X => ?_ | refine AllY.i fun Y => ?_)); refine AOps.nil ?_; (repeat refine WN ?_)
    refine AWP.shrink (X := X) i ?_
    simp only [Nat.zero_add]
    rw [key]
    (refine AWP.ret ?_; (repeat (first | refine inB_r ?_ | refine andThen_r ?_)); refine retQ_r ?_)
    exact ⟨[.sl X 0 i], [.lst true 48 3 (l.eraseIdx i)], _, [], .cons (.tmp rfl) rfl .nil, .cons (.cell (.sl (p := 0) .here (by rw [hel]; omega))) .nil, by exact Sub.f, rfl, rfl⟩
end Go.Proofs.Ytcnfcilfacgnnaa

namespace Go.Proofs.Ytcnfcilfacgnnaa
set_option linter.unusedVariables false
theorem kill_ps (w : Wd) (e : Ent) (hw : WdL w) : PS Try.prog 30 [wdA false w, entA e] (.tup [wdF (killOf w e).1, iA (killOf w e).2]) := by
  have hfd := found_ps w e hw
  obtain ⟨r, hr⟩ : ∃ r, killOf w e = r := ⟨_, rfl⟩
  rw [hr]
  unfold killOf at hr
  obtain ⟨v, hv⟩ : ∃ v, foundOf w e = v := ⟨_, rfl⟩
  rw [hv] at hfd
  unfold foundOf at hv
  obtain ⟨we, hwe⟩ : ∃ we, wdErr w = we := ⟨_, rfl⟩
  rw [hwe] at hv hr
  refine Spec.of (nt := 35) (res := [.cell 4 26, .tmp 5]) Try.func30 rfl (by kernel_rfl) rfl rfl rfl fun Sf => ?_
  (repeat refine WF ?_)
  refine AWP.region ?_
  refine AOps.goF fun P => ?_
  refine AOps.goB ?_
  refine AOps.goF fun R => ?_
  (repeat (first | refine WO ?_ | refine All.i fun X => ?_ | refine AllY.i fun Y => ?_))
  (repeat first | refine AOps.nil ?_ | refine WF ?_)
  refine AWP.rs fun I => AWP.rs fun G => AWP.rs fun K => ?_
  (repeat refine WF ?_); refine AWP.region ?_; (repeat (first | (refine AOps.gN ?_; first | (refine AOps.g_callf ?_; first | refine AOps.z2 (h := hfd) (hT := .tup (.cons (.agg (.cons (.lst (Y := K) rfl) (.cons (.lst (Y := G) rfl) (.cons (.lst (Y := I) rfl) .nil)))) rfl rfl (.cons .pr rfl rfl (.cons .pr rfl rfl .nil)))) (k := ?_))) | refine WO ?_ | refine All.i fun X => ?_ | refine AllY.i fun Y => ?_))
  (repeat first | refine AOps.nil ?_ | refine WF ?_)
  (repeat (first | refine WK ?_ | refine All.i fun X => ?_ | refine AllY.i fun Y => ?_))
  by_cases hd : we ≠ 0
  · rw [if_pos hd] at hv hr
    subst hv
    subst hr
    refine AWP.cond_t rfl (decide_eq_true hd) ?_
    (repeat (first | refine WK ?_ | refine All.i fun X => ?_ | refine AllY.i fun Y => ?_))
    (refine AWP.ret ?_; (repeat (first | refine inB_r ?_ | refine andThen_r ?_)); refine retQ_r ?_)
    exact Ends.cv [.agg [.prim (.slice none 0 0), .prim (.slice none 0 0), .prim (.slice none 0 0)], iA we] [wdF wdE, iA we] (.cons (.agg (.cons .nil (.cons .nil (.cons .nil .nil)))) (.cons (.cell .same) .nil))
  rw [if_neg hd] at hv hr
  by_cases hg : findE w.items e < 0
  · rw [if_pos hg] at hv hr
    subst hv
    subst hr
    refine AWP.cond_t rfl rfl ?_
    (repeat (first | refine WK ?_ | refine All.i fun X => ?_ | refine AllY.i fun Y => ?_))
    (refine AWP.ret ?_; (repeat (first | refine inB_r ?_ | refine andThen_r ?_)); refine retQ_r ?_)
    exact Ends.cv [.agg [.prim (.slice none 0 0), .prim (.slice none 0 0), .prim (.slice none 0 0)], iA 4] [wdF wdE, iA 4] (.cons (.agg (.cons .nil (.cons .nil (.cons .nil .nil)))) (.cons (.cell .same) .nil))
  rw [if_neg hg] at hv hr
  obtain ⟨n, hn⟩ : ∃ n : Nat, findE w.items e = n := ⟨(findE w.items e).toNat, by omega⟩
  rw [hn, Int.toNat_natCast] at hr
  rw [hn] at hv
  subst hv
  obtain ⟨it, hit, _, hen⟩ := findE_some hn
  have hok := (wdErr_iff w).1 (hwe.trans (by simpa using hd))
  obtain ⟨q1, q2, q3, q4, q5⟩ := hok.it it (List.mem_of_getElem? hit)
  rw [hen] at q1 q2 q3 q4
  obtain ⟨en, eg⟩ := e
  dsimp only at q1 q2 q3 q4 hr
  obtain ⟨j, hj⟩ : ∃ j : Nat, en = j := ⟨en.toNat, by omega⟩
  subst hj
  rw [Int.toNat_natCast] at q3 hr
  have hatg : (w.gens.map iA)[j]? = some (iA eg) := by rw [List.getElem?_map, q3]; rfl
  have hgr := hok.gs eg (List.mem_of_getElem? q3)
  have hgd : w.gens.getD j 0 = eg := by rw [List.getD_eq_getElem?_getD, q3]; rfl
  have hgm : (w.gens.map iA).length = w.gens.length := List.length_map _
  have him : (w.items.map itemB).length = w.items.length := List.length_map _
  have hnl : n < w.items.length := (List.getElem?_eq_some_iff.1 hit).1
  have hil := hw.items.1
  refine AWP.cond_f rfl rfl ?_
  (repeat refine WF ?_)
  (repeat refine WF ?_); refine AWP.region ?_; (repeat (first | (refine AOps.gN ?_; first | refine AOps.p (W.addE (eg + 1) rfl (by omega) rfl rfl) rfl ?_) | refine WO ?_ | refine All.i fun X => ?_ | refine AllY.i fun Y => ?_)); refine AOps.nil ?_; (repeat refine WN ?_)
  refine AWP.frzRow I (w.items.map (itemA false)) (items_frzB w.items) ?_
  refine AWP.rs fun Y => ?_
  have hdel := (deleteT_sp I (w.items.map itemB).length n (w.items.map (itemA false)) (by simp) (by rw [him]; exact hnl) (by rw [him]; exact hw.items.1) (items_free w.items) (items_wid w.items)).used
  (repeat refine WF ?_); refine AWP.region ?_; (repeat (first | (refine AOps.gN ?_; first | (refine AOps.g_callf ?_; first | refine AOps.z3 (h := hdel) (hT := .ls (Y := Y)) (k := ?_)) | refine AOps.p (W.addE ((n : Int) + 1) rfl (by omega) rfl rfl) rfl ?_) | refine WO ?_ | refine All.i fun X => ?_ | refine AllY.i fun Y => ?_)); refine AOps.nil ?_; (repeat refine WN ?_)
  (repeat (first | refine WK ?_ | refine All.i fun X => ?_ | refine AllY.i fun Y => ?_))
  (refine AWP.ret ?_; (repeat (first | refine inB_r ?_ | refine andThen_r ?_)); refine retQ_r ?_)
  have hs : (w.gens.map iA).set j (iA (eg + 1)) = (w.gens.set j (eg + 1)).map iA := by rw [List.map_set]
  have hsl : (w.gens.map iA).length = ((w.gens.map iA).set j (iA (eg + 1))).length := by simp
  have he : (w.items.map (itemA false)).eraseIdx n = (w.items.eraseIdx n).map (itemA false) := (map_erase _ _ _).symm
  rw [hgd] at hr
  subst hr
  have hE : wdF ⟨w.kinds, w.gens.set j (eg + 1), w.items.eraseIdx n⟩ = .agg [kindsA true true w.kinds, .lst true 3 1 ((w.gens.map iA).set j (iA (eg + 1))), .lst true 48 3 ((w.items.map (itemA false)).eraseIdx n)] := by rw [hs, he]; rfl
  rw [hE]
  exact Ends.cv [.agg [.sl K 0 (w.kinds.map (kindA true)).length, .sl G 0 (w.gens.map iA).length, .sl Y 0 ((w.items.map (itemA false)).eraseIdx n).length], iA 0] [.agg [kindsA true true w.kinds, .lst true 3 1 ((w.gens.map iA).set j (iA (eg + 1))), .lst true 48 3 ((w.items.map (itemA false)).eraseIdx n)], iA 0] (.cons (.agg (.cons (.sl (p := 1) (.next .here) rfl) (.cons (.sl (p := 1) (.next .here) hsl) (.cons (.sl (p := 0) .here rfl) .nil)))) (.cons (.cell .same) .nil))
end Go.Proofs.Ytcnfcilfacgnnaa

namespace Go.Proofs.Ytcnfcilfacgnnaa
set_option linter.unusedVariables false
open Go.Sort
theorem arr_at {α : Type} [Inhabited α] (f : α → AV) {d : Array α} {i : Nat} (h : i < d.size) : (d.toList.map f)[i]? = some (f d[i]!) := by
  rw [List.getElem?_map, List.getElem?_eq_getElem (by simpa using h)]
  simp [getElem!_pos d i h]
theorem arr_swp {α : Type} [Inhabited α] (f : α → AV) {d : Array α} {i j : Nat} (hi : i < d.size) (hj : j < d.size) : ((d.toList.map f).set i (f d[j]!)).set j (f d[i]!) = (swp d i j).toList.map f := by
  unfold swp
  simp [Array.toList_setIfInBounds, List.map_set]
theorem arr_set2 {α : Type} [Inhabited α] (f : α → AV) {d : Array α} {i j : Nat} (hj : j < d.size) (x : α) : ∃ y, ((d.toList.map f).set i (f x))[j]? = some (f y) := by
  by_cases e : i = j
  · subst e; exact ⟨x, List.getElem?_set_self (by simpa using hj)⟩
  · exact ⟨d[j]!, by rw [List.getElem?_set_ne e]; exact arr_at f hj⟩
/-- The order that a comparison gives. -/
def ltOf {α : Type} (cf : α → α → Int) (x y : α) : Bool := decide (cf x y < 0)
instance : Inhabited Comp := ⟨⟨0, []⟩⟩
end Go.Proofs.Ytcnfcilfacgnnaa

namespace Go.Proofs.Ytcnfcilfacgnnaa
set_option linter.unusedVariables false
set_option linter.unusedSimpArgs false
open Go.Sort
set_option maxHeartbeats 1000000 in
theorem insC_po (f : FuncId) (cap : List AV) (cf : Comp → Comp → Int) (hst : st1s cap = true) (hcf : ∀ x y, PS Try.prog f ((compA false) x :: (compA false) y :: cap) (iA (cf x y))) (X n : Nat) (d : Array Comp) (a b : Nat) (hn : n = d.size) (hab : a ≤ b) (hb : b ≤ d.size) (hz : d.size ≤ 1099511627776) : PO Try.prog 133 [.sl X 0 n, iA a, iA b, .fn f cap] X (.row 34 2 (d.toList.map (compA false))) (.tup []) (.row 34 2 ((insertionSort (ltOf cf) d a b).toList.map (compA false))) := by
  obtain ⟨r, hr⟩ : ∃ r, insertionSort (ltOf cf) d a b = r := ⟨_, rfl⟩
  rw [hr]
  unfold insertionSort at hr
  refine Spec.of (nt := 53) (res := []) Try.func133 rfl (by kernel_rfl) rfl rfl rfl fun Sf => ?_
  (repeat (first | refine WK ?_ | refine All.i fun X => ?_ | refine AllY.i fun Y => ?_))
  refine AWP.lp2 (fun (i : Nat) (e : Array Comp) => ⟨[(0, .sl X 0 n), (1, iA a), (2, iA b), (3, .fn f cap), (8, iA i)], (X, .row 34 2 (e.toList.map (compA false))) :: Sf⟩) (fun i e => i ≤ max b (a + 1) ∧ a < i ∧ e.size = d.size ∧ insOuter (ltOf cf) a b i e = r) (fun i _ => b - i) (a + 1) d ⟨by omega, by omega, rfl, hr⟩ ?_
  rintro i e ⟨hi, hai, he, hfold⟩
  rw [insOuter] at hfold
  (repeat (first | refine WK ?_ | refine All.i fun X => ?_ | refine AllY.i fun Y => ?_))
  refine AWP.cond rfl (fun hc => ?_) (fun hc => ?_)
  · have h : i < b := by have := of_decide_eq_true hc; omega
    rw [if_pos h] at hfold
    (repeat (first | refine WK ?_ | refine All.i fun X => ?_ | refine AllY.i fun Y => ?_))
    refine AWP.lp2 (fun (j : Nat) (u : Array Comp) => ⟨[(0, .sl X 0 n), (1, iA a), (2, iA b), (3, .fn f cap), (8, iA i), (9, iA j)], (X, .row 34 2 (u.toList.map (compA false))) :: Sf⟩) (fun j u => j ≤ i ∧ u.size = d.size ∧ insInner (ltOf cf) a j u = insInner (ltOf cf) a i e) (fun j _ => j) i e ⟨Nat.le_refl _, he, rfl⟩ ?_
    rintro j u ⟨hj, hu, hin⟩
    rcases Bool.eq_false_or_eq_true (decide ((a : Int) < (j : Int))) with g | g
    · have hja : a < j := by have := of_decide_eq_true g; omega
      obtain ⟨q, rfl⟩ : ∃ q, j = q + 1 := ⟨j - 1, by omega⟩
      have h1 := arr_at (compA false) (d := u) (i := q + 1) (by omega)
      have h2 := arr_at (compA false) (d := u) (i := q) (by omega)
      have hl := hcf (u[q + 1]!) (u[q]!)
      rw [insInner] at hin
      (repeat refine WF ?_)
      (repeat refine WF ?_); refine AWP.region_run (by kernel_rfl) (by kernel_rfl) ?_; (repeat (first | (refine RGo.gN ?_; first | (refine RGo.g_callv ?_; first | refine RGo.k2 (h := (hl ..)) (k := ?_)) | refine RGo.go (h := W.subE (q : Int) (by omega) (by omega) rfl rfl) (k := ?_)) | (refine RGo.gQ ?_; first | (refine RGo.g_callv ?_; first | refine RGo.k2 (h := (hl ..)) (k := ?_)) | refine RGo.go (h := W.subE (q : Int) (by omega) (by omega) rfl rfl) (k := ?_)) | refine RK ?_ | refine RGo.nil (by kernel_rfl) ?_))
      (repeat refine WF ?_)
      refine AWP.cond rfl (fun hd => ?_) (fun hd => ?_)
      · have hd : (ltOf cf) u[q + 1]! u[q]! = true := by simpa [g, ltOf] using hd
        rw [hd, if_pos (by simp; omega)] at hin
        obtain ⟨y, hy⟩ := arr_set2 (compA false) (d := u) (i := q + 1) (j := q) (by omega) u[q]!
        (repeat refine WF ?_)
        (repeat refine WF ?_); refine AWP.region_run (by kernel_rfl) (by kernel_rfl) ?_; (repeat (first | (refine RGo.gN ?_; first | refine RGo.go (h := W.subE (q : Int) (by omega) (by omega) rfl rfl) (k := ?_) | refine RGo.s (W.store rfl rfl (by exact At.f) hy (by exact rfl)) rfl ?_) | (refine RGo.gQ ?_; first | refine RGo.go (h := W.subE (q : Int) (by omega) (by omega) rfl rfl) (k := ?_) | refine RGo.s (W.store rfl rfl (by exact At.f) hy (by exact rfl)) rfl ?_) | refine RK ?_ | refine RGo.nil (by kernel_rfl) ?_))
        (repeat (first | (refine AOps.gN ?_; first | refine AOps.p (W.subE (q : Int) (by omega) (by omega) rfl rfl) rfl ?_) | refine WK ?_ | refine All.i fun X => ?_ | refine AllY.i fun Y => ?_))
        refine lp_next2 q (swp u (q + 1) q) ⟨by omega, by rw [size_swp]; exact hu, hin⟩ (h0 := by rw [← arr_swp (compA false) (by omega) (by omega)]; exact ⟨by exact Lk.f, by exact Sub.f⟩)
      · have hd : (ltOf cf) u[q + 1]! u[q]! = false := by simpa [g, ltOf] using hd
        rw [hd, if_neg (by simp)] at hin
        (repeat (first | refine WK ?_ | refine All.i fun X => ?_ | refine AllY.i fun Y => ?_))
        refine lp_next2 (i + 1) u ⟨by omega, by omega, hu, by rw [hin]; exact hfold⟩
    · have hja : j ≤ a := by have := of_decide_eq_false g; omega
      have hin2 : insInner (ltOf cf) a j u = u := by
        cases j with
        | zero => rfl
        | succ q => rw [insInner, if_neg (by simp; omega)]
      rw [hin2] at hin
      (repeat refine WF ?_)
      (repeat refine WF ?_); refine AWP.region_run (by kernel_rfl) (by kernel_rfl) ?_; (repeat (first | refine RK ?_ | refine RGo.nil (by kernel_rfl) ?_))
      (repeat refine WF ?_)
      refine AWP.cond_f rfl (by simp [g]) ?_
      (repeat (first | refine WK ?_ | refine All.i fun X => ?_ | refine AllY.i fun Y => ?_))
      refine lp_next2 (i + 1) u ⟨by omega, by omega, hu, by rw [hin]; exact hfold⟩
  · have h : ¬ i < b := by have := of_decide_eq_false hc; omega
    rw [if_neg h] at hfold
    subst hfold
    (repeat (first | refine WK ?_ | refine All.i fun X => ?_ | refine AllY.i fun Y => ?_))
    refine retQ_n ?_
    exact Ends.void [(X, .row 34 2 (e.toList.map (compA false)))] ⟨rfl, rfl⟩
end Go.Proofs.Ytcnfcilfacgnnaa

namespace Go.Proofs.Ytcnfcilfacgnnaa
set_option linter.unusedVariables false
open Go.Sort
/-- How many bits each byte needs. -/
def lenTab : List UInt8 := (List.range 256).map fun n => UInt8.ofNat (if n = 0 then 0 else Nat.log2 n + 1)
theorem lenTab_at {n : Nat} (h : n < 256) : ((lenTab.getD n 0).toNat : Int) = bitsLen n := by
  have h1 : lenTab.getD n 0 = UInt8.ofNat (bitsLen n) := by
    unfold lenTab
    rw [List.getD_eq_getElem?_getD, List.getElem?_map, List.getElem?_range h]
    rfl
  have h2 : bitsLen n ≤ 8 := (bitsLen_le_iff n 8).2 (by omega)
  rw [h1, UInt8.toNat_ofNat']
  omega
theorem bitsLen_div256 {x : Nat} (h : 256 ≤ x) : bitsLen (x / 256) + 8 = bitsLen x := by
  have a := (bitsLen_le_iff (x / 256) (bitsLen x - 8)).2 (by
    have h1 := lt_two_pow_bitsLen x
    have h2 : 8 < bitsLen x := by
      have := (bitsLen_le_iff x 8)
      omega
    have h3 : 2 ^ bitsLen x = 2 ^ (bitsLen x - 8) * 256 := by rw [show (256 : Nat) = 2 ^ 8 from rfl, ← Nat.pow_add]; congr 1; omega
    omega)
  have b := (bitsLen_le_iff x (bitsLen (x / 256) + 8)).2 (by
    have h1 := lt_two_pow_bitsLen (x / 256)
    rw [Nat.pow_add]
    omega)
  have h2 : 8 < bitsLen x := by
    have := (bitsLen_le_iff x 8)
    omega
  omega
set_option maxRecDepth 100000 in
theorem len64_ps (x : UInt64) (hx : x.toNat < 65536) : PS Try.prog 142 [uA x] (iA (bitsLen x.toNat)) := by
  refine Spec.of (nt := 25) (res := [.tmp 2]) Try.func142 rfl (by kernel_rfl) rfl rfl rfl fun Sf => ?_
  (repeat (first | refine WK ?_ | refine All.i fun X => ?_ | refine AllY.i fun Y => ?_))
  refine AWP.cond_f rfl (decide_eq_false (by omega)) ?_
  (repeat (first | refine WK ?_ | refine All.i fun X => ?_ | refine AllY.i fun Y => ?_))
  refine AWP.cond_f rfl (decide_eq_false (by omega)) ?_
  (repeat (first | refine WK ?_ | refine All.i fun X => ?_ | refine AllY.i fun Y => ?_))
  refine AWP.joinS (fun b : UInt64 × Nat => b.1.toNat < 256 ∧ bitsLen b.1.toNat + b.2 = bitsLen x.toNat ∧ b.2 ≤ 8) (fun b => ⟨[(0, uA b.1), (2, iA b.2)], Sf⟩) ?_ ?_
  · refine AWP.cond rfl (fun h => ?_) (fun h => ?_)
    · have h : 256 ≤ x.toNat := by have := of_decide_eq_true h; omega
      have hs : (x >>> UInt64.ofNat 8).toNat = x.toNat / 256 := by
        rw [UInt64.toNat_shiftRight, UInt64.toNat_ofNat', show 8 % 2 ^ 64 % 64 = 8 from rfl, Nat.shiftRight_eq_div_pow]
      (repeat (first | (refine AOps.gN ?_; first | refine AOps.p (W.shrU 8 (by omega) rfl rfl rfl) rfl ?_) | refine WK ?_ | refine All.i fun X => ?_ | refine AllY.i fun Y => ?_))
      refine jn (x >>> UInt64.ofNat 8, 8) ⟨by dsimp only; omega, ?_, by (try dsimp only); omega⟩
      dsimp only
      rw [hs]
      exact bitsLen_div256 h
    · have h : ¬ 256 ≤ x.toNat := by have := of_decide_eq_false h; omega
      (repeat (first | refine WK ?_ | refine All.i fun X => ?_ | refine AllY.i fun Y => ?_))
      exact jn (x, 0) ⟨by dsimp only; omega, rfl, by (try dsimp only); omega⟩
  · rintro ⟨u, m⟩ ⟨h1, h2, h3⟩
    dsimp only at h1 h2 h3 ⊢
    have hw : IntKind.u8.wrap ((u.toNat : Nat) : Int) = ((u.toNat : Nat) : Int) := by rw [IntKind.wrap_u8']; omega
    have hat := lenTab_at h1
    have hb8 : bitsLen u.toNat ≤ 8 := (bitsLen_le_iff _ 8).2 (by omega)
    have hw2 : IntKind.i64.wrap ((lenTab.getD u.toNat 0).toNat : Int) = ((bitsLen u.toNat : Nat) : Int) := by rw [hat]; exact wrap_id (by omega) (by omega)
    (repeat (first | (refine AOps.gN ?_; first | refine AOps.p (W.convW .u64 .u8 _ (by kernel_rfl) (by kernel_rfl) hw rfl) rfl ?_ | refine AOps.p (W.idxStr (s := lenTab) (a := u.toNat) (by kernel_rfl) rfl rfl (by rw [lenTab_len]; exact h1)) rfl ?_ | refine AOps.p (W.convW .u8 .i64 _ (by kernel_rfl) (by kernel_rfl) hw2 rfl) rfl ?_ | refine AOps.p (W.addE ((bitsLen x.toNat : Nat) : Int) (by omega) (by omega) rfl rfl) rfl ?_) | refine WK ?_ | refine All.i fun X => ?_ | refine AllY.i fun Y => ?_))
    (refine AWP.ret ?_; (repeat (first | refine inB_r ?_ | refine andThen_r ?_)); refine retQ_r ?_); refine Ends.ps ?_
    rfl
theorem len_ps (x : UInt64) (hx : x.toNat < 65536) : PS Try.prog 117 [uA x] (iA (bitsLen x.toNat)) := by
  have h := len64_ps x hx
  refine Spec.of (nt := 8) (res := [.tmp 2]) Try.func117 rfl (by kernel_rfl) rfl rfl rfl fun Sf => ?_
  (repeat (first | refine WK ?_ | refine All.i fun X => ?_ | refine AllY.i fun Y => ?_))
  refine AWP.cond_f rfl rfl ?_
  (repeat (first | (refine AOps.gN ?_; first | (refine AOps.g_callf ?_; first | refine AOps.c1 (h := (h ..)) (k := ?_))) | refine WK ?_ | refine All.i fun X => ?_ | refine AllY.i fun Y => ?_))
  (refine AWP.ret ?_; (repeat (first | refine inB_r ?_ | refine andThen_r ?_)); refine retQ_r ?_); refine Ends.ps ?_
  rfl
end Go.Proofs.Ytcnfcilfacgnnaa

namespace Go.Proofs.Ytcnfcilfacgnnaa
set_option linter.unusedVariables false
set_option linter.unusedSimpArgs false
open Go.Sort
theorem pdqC_small (f : FuncId) (cap : List AV) (cf : Comp → Comp → Int) (hst : st1s cap = true) (hf : ∀ x y, PS Try.prog f (compA false x :: compA false y :: cap) (iA (cf x y))) (X n limit : Nat) (d : Array Comp) (hn : n = d.size) (h12 : d.size ≤ 12) : PO Try.prog 116 [.sl X 0 n, iA 0, iA n, iA limit, .fn f cap] X (.row 34 2 (d.toList.map (compA false))) (.tup []) (.row 34 2 ((insertionSort (ltOf cf) d 0 d.size).toList.map (compA false))) := by
  have hs := insC_po f cap cf hst hf X n d 0 d.size hn (Nat.zero_le _) (Nat.le_refl _) (by omega)
  rw [← hn] at hs
  have hsz : d.size = n := hn.symm
  refine Spec.of (nt := 148) (res := []) Try.func116 rfl (by kernel_rfl) rfl rfl rfl fun Sf => ?_
  (repeat (first | refine WK ?_ | refine All.i fun X => ?_ | refine AllY.i fun Y => ?_))
  refine AWP.lp (fun _ : Unit => ⟨[(0, .sl X 0 n), (1, iA 0), (2, iA n), (3, iA limit), (4, .fn f cap)], (X, .row 34 2 (d.toList.map (compA false))) :: Sf⟩) (fun _ => True) (fun _ => 0) () trivial ?_
  rintro _ _
  refine AWP.block ?_
  (repeat (first | (refine AOps.gN ?_; first | refine AOps.p (W.subE (n : Int) (by omega) (by omega) rfl rfl) rfl ?_) | refine WK ?_ | refine All.i fun X => ?_ | refine AllY.i fun Y => ?_))
  refine AWP.cond_t rfl (decide_eq_true (by omega)) ?_
  (repeat (first | (refine AOps.gN ?_; first | (refine AOps.g_callf ?_; first | refine AOps.o4 (h := (hs ..)) (k := ?_))) | refine WK ?_ | refine All.i fun X => ?_ | refine AllY.i fun Y => ?_))
  (refine AWP.ret ?_; (repeat (first | refine inB_r ?_ | refine andThen_r ?_)); refine retQ_r ?_)
  rw [hsz]
  exact Ends.void [(X, _)] ⟨rfl, rfl⟩
theorem permIn_list {α : Type} [Inhabited α] {d u : Array α} (h : PermIn 0 d.size d u) : u.toList.Perm d.toList := by
  obtain ⟨h1, _, h3⟩ := h
  have e1 : u.extract 0 d.size = u := by rw [← h1]; exact Array.extract_size
  rwa [e1, Array.extract_size] at h3
theorem sortedIn_list {α : Type} [Inhabited α] {lt : α → α → Bool} {u : Array α} {n : Nat} (hn : n = u.size) (h : SortedIn lt 0 n u) : u.toList.Pairwise fun a b => lt b a = false := by
  rw [List.pairwise_iff_getElem]
  intro i j hi hj hij
  have hi' : i < u.size := by simpa using hi
  have hj' : j < u.size := by simpa using hj
  have := h i j (Nat.zero_le _) hij (by omega)
  rw [getElem!_pos u j hj', getElem!_pos u i hi'] at this
  simpa using this
set_option maxRecDepth 8000 in
theorem sortFuncC_sp (f : FuncId) (cap : List AV) (cf : Comp → Comp → Int) (hst : st1s cap = true) (hS : SWO (ltOf cf)) (hf : ∀ x y, PS Try.prog f (compA false x :: compA false y :: cap) (iA (cf x y))) (X n : Nat) (l : List Comp) (hn : n = l.length) (h12 : l.length ≤ 12) :
    ∃ u : List Comp, (u.Perm l ∧ u.Pairwise fun a b => ltOf cf b a = false) ∧ PO Try.prog 79 [.sl X 0 n, .fn f cap] X (.row 34 2 (l.map (compA false))) (.tup []) (.row 34 2 (u.map (compA false))) := by
  obtain ⟨p1, p2⟩ := insertionSort_holds (lt := ltOf cf) hS l.toArray 0 l.toArray.size (Nat.zero_le _) (Nat.le_refl _)
  have e1 : (UInt64.ofNat n).toNat = n := by rw [UInt64.toNat_ofNat']; omega
  have hlen := len_ps (UInt64.ofNat n) (by rw [e1]; omega)
  rw [e1] at hlen
  have hs := pdqC_small f cap cf hst hf X n (bitsLen n) l.toArray (by simpa using hn) (by simpa using h12)
  obtain ⟨u, hu⟩ : ∃ u, insertionSort (ltOf cf) l.toArray 0 l.toArray.size = u := ⟨_, rfl⟩
  rw [hu] at p1 p2 hs
  refine ⟨u.toList, ⟨by simpa using permIn_list p1, sortedIn_list p1.1.symm p2⟩, ?_⟩
  simp only [List.toList_toArray] at hs
  refine Spec.of (nt := 14) (res := []) Try.func79 rfl (by kernel_rfl) rfl rfl rfl fun Sf => ?_
  (repeat (first | (refine AOps.gN ?_; first | (refine AOps.g_callf ?_; first | refine AOps.c1 (h := (hlen ..)) (k := ?_) | refine AOps.o5 (h := (hs ..)) (k := ?_)) | refine AOps.p (W.toUN .i64 n rfl (by omega) (by kernel_rfl) (by kernel_rfl) rfl) rfl ?_) | refine WK ?_ | refine All.i fun X => ?_ | refine AllY.i fun Y => ?_))
  refine retQ_n ?_
  exact Ends.void [(X, _)] ⟨rfl, rfl⟩
theorem cmpI_neg (a b : Int) : cmpI a b < 0 ↔ a < b := by
  unfold cmpI
  split
  · simp; assumption
  · split <;> simp <;> omega
theorem swo_key {α : Type} (key : α → Int) : SWO (ltOf fun x y => cmpI (key x) (key y)) where
  irrefl x := by simp only [ltOf, decide_eq_false_iff_not, cmpI_neg]; omega
  trans x y z h1 h2 := by simp only [ltOf, decide_eq_true_eq, cmpI_neg] at *; omega
  ntrans x y z h1 h2 := by simp only [ltOf, decide_eq_false_iff_not, cmpI_neg] at *; omega
end Go.Proofs.Ytcnfcilfacgnnaa

namespace Go.Proofs.Ytcnfcilfacgnnaa
set_option linter.unusedVariables false
theorem indexFuncC_ps (l : List Comp) (f : FuncId) (cap : List AV) (p : Comp → Bool) (hs : st1s cap = true) (hl : l.length ≤ 4611686018427387904) (hf : ∀ x ∈ l, PS Try.prog f ((compA false) x :: cap) (bA (p x))) : PS Try.prog 115 [.lst false 34 2 (l.map (compA false)), .fn f cap] (iA (idxF l p)) := by
  refine Spec.of (nt := 19) (res := [.tmp 4]) Try.func115 rfl (by kernel_rfl) rfl rfl rfl fun Sf => ?_
  (repeat (first | refine WK ?_ | refine All.i fun X => ?_ | refine AllY.i fun Y => ?_))
  refine AWP.lp (fun i : Nat => ⟨[(0, .lst false 34 2 (l.map (compA false))), (1, .fn f cap), (7, iA (l.map (compA false)).length), (8, iA i)], Sf⟩) (fun i => i ≤ l.length ∧ ∀ j (h : j < l.length), j < i → p l[j] = false) (fun i => l.length - i) 0 ⟨Nat.zero_le _, fun j h hj => absurd hj (by omega)⟩ ?_
  rintro i ⟨hi, he⟩
  (repeat (first | refine WK ?_ | refine All.i fun X => ?_ | refine AllY.i fun Y => ?_))
  refine AWP.cond rfl (fun hc => ?_) (fun hc => ?_)
  · have h : i < l.length := by simpa using hc
    (repeat (first | (refine AOps.gN ?_; first | (refine AOps.g_callv ?_; first | refine AOps.k1 (h := (hf _ (List.getElem_mem h))) (k := ?_))) | refine WK ?_ | refine All.i fun X => ?_ | refine AllY.i fun Y => ?_))
    refine AWP.cond rfl (fun hd => ?_) (fun hd => ?_)
    · (repeat (first | refine WK ?_ | refine All.i fun X => ?_ | refine AllY.i fun Y => ?_))
      (refine AWP.ret ?_; (repeat (first | refine inB_r ?_ | refine andThen_r ?_)); refine retQ_r ?_); refine Ends.ps ?_
      rw [idxF_some h hd fun j hj => he j (by omega) hj]
    · (repeat (first | refine WK ?_ | refine All.i fun X => ?_ | refine AllY.i fun Y => ?_))
      refine lp_next (i + 1) ⟨h, fun j h1 h2 => ?_⟩
      by_cases e : j = i
      · subst e; exact hd
      · exact he j h1 (by omega)
  · have h : ¬ i < l.length := by simpa using hc
    (repeat (first | refine WK ?_ | refine All.i fun X => ?_ | refine AllY.i fun Y => ?_))
    (refine AWP.ret ?_; (repeat (first | refine inB_r ?_ | refine andThen_r ?_)); refine retQ_r ?_); refine Ends.ps ?_
    rw [idxF_none fun j hj => he j hj (by omega)]
end Go.Proofs.Ytcnfcilfacgnnaa

namespace Go.Proofs.Ytcnfcilfacgnnaa
set_option linter.unusedVariables false
theorem containsFuncC_ps (l : List Comp) (f : FuncId) (cap : List AV) (p : Comp → Bool) (hs : st1s cap = true) (hl : l.length ≤ 4611686018427387904) (hf : ∀ x ∈ l, PS Try.prog f ((compA false) x :: cap) (bA (p x))) : PS Try.prog 77 [.lst false 34 2 (l.map (compA false)), .fn f cap] (bA (l.any p)) := by
  refine Spec.of (nt := 9) (res := [.tmp 4]) Try.func77 rfl (by kernel_rfl) rfl rfl rfl fun Sf => ?_
  (repeat (first | (refine AOps.gN ?_; first | (refine AOps.g_callf ?_; first | refine AOps.c2 (h := (indexFuncC_ps l f cap p hs hl hf)) (k := ?_))) | refine WK ?_ | refine All.i fun X => ?_ | refine AllY.i fun Y => ?_))
  (refine AWP.ret ?_; (repeat (first | refine inB_r ?_ | refine andThen_r ?_)); refine retQ_r ?_); refine Ends.ps ?_
  rw [← idxF_any]
end Go.Proofs.Ytcnfcilfacgnnaa

namespace Go.Proofs.Ytcnfcilfacgnnaa
set_option linter.unusedVariables false
open Go.Sort
theorem fit1_ps (o c : Comp) : PS Try.prog 78 [compA false o, .fp (compA false c).cells] (bA (decide (o.kind = c.kind))) := by
  refine Spec.of (nt := 9) (res := [.tmp 3]) Try.func78 rfl (by kernel_rfl) rfl rfl rfl fun Sf => ?_
  (repeat (first | (refine AOps.gN ?_; first | (refine AOps.g_box ?_; refine AOps.goB ?_)) | refine WK ?_ | refine All.i fun X => ?_ | refine AllY.i fun Y => ?_))
  (refine AWP.ret ?_; (repeat (first | refine inB_r ?_ | refine andThen_r ?_)); refine retQ_r ?_); refine Ends.ps ?_
  rfl
theorem fit2_ps (a b : Comp) : PS Try.prog 80 [compA false a, compA false b] (iA (cmpI a.kind b.kind)) := by
  refine Spec.of (nt := 10) (res := [.tmp 4]) Try.func80 rfl (by kernel_rfl) rfl rfl rfl fun Sf => ?_
  (repeat (first | (refine AOps.gN ?_; first | (refine AOps.g_callf ?_; first | refine AOps.c2 (h := (compare_ps a.kind b.kind)) (k := ?_)) | (refine AOps.g_box ?_; refine AOps.goB ?_)) | refine WK ?_ | refine All.i fun X => ?_ | refine AllY.i fun Y => ?_))
  (refine AWP.ret ?_; (repeat (first | refine inB_r ?_ | refine andThen_r ?_)); refine retQ_r ?_); refine Ends.ps ?_
  rfl
set_option maxRecDepth 8000 in
set_option maxHeartbeats 2000000 in
theorem wfit_ps (ks : List Kind) (l : List Comp) (h12 : ks.length ≤ 12) (hl : l.length ≤ 1099511627776) : PS Try.prog 43 [kindsA false false ks, compsA false false l] (.tup [compsA true false (wFit ks l).1, iA (wFit ks l).2]) := by
  have hck := check_ps ks
  obtain ⟨r, hr⟩ : ∃ r, wFit ks l = r := ⟨_, rfl⟩
  rw [hr]
  unfold wFit at hr
  have hlm : (l.map (compA false)).length = l.length := List.length_map _
  have hkm : (ks.map (kindA false)).length = ks.length := List.length_map _
  refine Spec.of (nt := 64) (res := [.tmp 4, .tmp 5]) Try.func43 rfl (by kernel_rfl) rfl rfl rfl fun Sf => ?_
  (repeat (first | (refine AOps.gN ?_; first | (refine AOps.g_callf ?_; first | refine AOps.c1 (h := (hck ..)) (k := ?_))) | refine WK ?_ | refine All.i fun X => ?_ | refine AllY.i fun Y => ?_))
  refine AWP.cond rfl (fun hc => ?_) (fun hc => ?_)
  · have hc : checkErr ks ≠ 0 := by simpa using hc
    rw [if_pos hc] at hr
    subst hr
    (repeat (first | refine WK ?_ | refine All.i fun X => ?_ | refine AllY.i fun Y => ?_))
    (refine AWP.ret ?_; (repeat (first | refine inB_r ?_ | refine andThen_r ?_)); refine retQ_r ?_)
    exact Ends.cv [.prim (.slice none 0 0), iA (checkErr ks)] [compsA true false [], iA (checkErr ks)] (.cons (.cell .nil) (.cons (.cell .same) .nil))
  have hc : checkErr ks = 0 := by simpa using hc
  rw [if_neg (by simp [hc])] at hr
  have hgo := fun h => fitGo_ok (ks := ks) (l := l) (pre := []) (out := []) h (by simp) (by simp) (by simp)
  obtain ⟨g, hg⟩ : ∃ g, fitGo ks [] [] l = g := ⟨_, rfl⟩
  rw [hg] at hr hgo
  (repeat (first | refine WK ?_ | refine All.i fun X => ?_ | refine AllY.i fun Y => ?_))
  refine AWP.adopt (d := 7) 34 2 rfl fun O => ?_
  refine AWP.lp4 (fun (q Y m : Nat) (M : List AV) => ⟨[(0, kindsA false false ks), (1, compsA false false l), (7, .sl Y 0 m), (17, compsA false false l), (18, iA (l.map (compA false)).length), (19, iA q)], (Y, .row 34 2 M) :: Sf⟩) (fun q _ m M => q ≤ l.length ∧ m = M.length ∧ m = q ∧ ∃ out : List Comp, M = out.map (compA false) ∧ fitGo ks (l.take q) out (l.drop q) = g) (fun q _ _ _ => l.length - q) 0 O 0 [] ⟨Nat.zero_le _, rfl, rfl, [], rfl, hg⟩ ?_
  rintro q Y m M ⟨hq, hm, hmq, out, hM, hfold⟩
  (repeat (first | refine WK ?_ | refine All.i fun X => ?_ | refine AllY.i fun Y => ?_))
  refine AWP.cond rfl (fun he => ?_) (fun he => ?_)
  · have h : q < l.length := by rw [decide_eq_true_eq, hlm] at he; omega
    obtain ⟨c, hcq⟩ : ∃ c, l[q] = c := ⟨_, rfl⟩
    have hat : (l.map (compA false))[q]? = some (compA false c) := by rw [List.getElem?_map, List.getElem?_eq_getElem h, hcq]; rfl
    rw [List.drop_eq_getElem_cons h, hcq, fitGo] at hfold
    have hcf := containsFuncC_ps (l.take q) 78 [.fp (compA false c).cells] (fun o => decide (o.kind = c.kind)) rfl (by rw [List.length_take]; omega) (fun o _ => fit1_ps o c)
    obtain ⟨ck, cv⟩ := c
    dsimp only at hfold hcf
    rw [List.map_take] at hcf
    (repeat (first | refine WK ?_ | refine All.i fun V => ?_ | refine AllY.i fun Y => ?_))
    refine AWP.cond rfl (fun hd => ?_) (fun hd => ?_)
    · have hb : ck < 0 ∨ (ks.length : Int) ≤ ck := by simpa using hd
      rw [if_pos hb] at hfold
      subst hfold
      rw [if_pos (by decide)] at hr
      subst hr
      (repeat (first | refine WK ?_ | refine All.i fun X => ?_ | refine AllY.i fun Y => ?_))
      (refine AWP.ret ?_; (repeat (first | refine inB_r ?_ | refine andThen_r ?_)); refine retQ_r ?_)
      exact Ends.cv [.prim (.slice none 0 0), iA 1] [compsA true false [], iA 1] (.cons (.cell .nil) (.cons (.cell .same) .nil))
    have hb : ¬ (ck < 0 ∨ (ks.length : Int) ≤ ck) := by simpa using hd
    rw [if_neg hb] at hfold
    obtain ⟨j, hj⟩ : ∃ j : Nat, ck = j := ⟨ck.toNat, by omega⟩
    subst hj
    have hjl : j < ks.length := by omega
    rw [Int.toNat_natCast, List.getElem?_eq_getElem hjl] at hfold
    obtain ⟨k, hk⟩ : ∃ k, ks[j] = k := ⟨_, rfl⟩
    rw [hk] at hfold
    dsimp only at hfold
    have hatk : (ks.map (kindA false))[j]? = some (kindA false k) := by rw [List.getElem?_map, List.getElem?_eq_getElem hjl, hk]; rfl
    have hft := fit_ps k cv
    refine AWP.iceP [9] (X := V) (by exact At.f) (b := compA false ⟨j, cv⟩) (hf := ⟨by show (AV.agg [iA (j : Int), intsA false cv]).frz = _; exact Frz.h⟩) ?_ (by intro d hd; simp only [List.mem_singleton] at hd; subst hd; rfl)
    (repeat (first | (refine AOps.gN ?_; first | (refine AOps.g_callf ?_; first | refine AOps.c2 (h := (hcf ..)) (k := ?_)) | refine AOps.p (W.hiL rfl rfl rfl (by rw [hlm]; exact hq)) rfl ?_) | refine WK ?_ | refine All.i fun X => ?_ | refine AllY.i fun Y => ?_))
    refine AWP.cond rfl (fun hd2 => ?_) (fun hd2 => ?_)
    · rw [if_pos hd2] at hfold
      subst hfold
      rw [if_pos (by decide)] at hr
      subst hr
      (repeat (first | refine WK ?_ | refine All.i fun X => ?_ | refine AllY.i fun Y => ?_))
      (refine AWP.ret ?_; (repeat (first | refine inB_r ?_ | refine andThen_r ?_)); refine retQ_r ?_)
      exact Ends.cv [.prim (.slice none 0 0), iA 5] [compsA true false [], iA 5] (.cons (.cell .nil) (.cons (.cell .same) .nil))
    rw [if_neg (by simp [hd2])] at hfold
    (repeat refine WF ?_); refine AWP.region_run (by kernel_rfl) (by kernel_rfl) ?_; (repeat (first | (refine RGo.gN ?_; first | refine RGo.c2 (h := hft) (k := ?_)) | (refine RGo.gQ ?_; first | refine RGo.c2 (h := hft) (k := ?_)) | refine RK ?_ | refine RGo.nil (by kernel_rfl) ?_))
    (repeat (first | refine WK ?_ | refine All.i fun X => ?_ | refine AllY.i fun Y => ?_))
    refine AWP.cond rfl (fun hd3 => ?_) (fun hd3 => ?_)
    · have hd3 : (fitOf k cv).2 ≠ 0 := by simpa using hd3
      rw [if_pos hd3] at hfold
      subst hfold
      rw [if_pos hd3] at hr
      subst hr
      (repeat (first | refine WK ?_ | refine All.i fun X => ?_ | refine AllY.i fun Y => ?_))
      (refine AWP.ret ?_; (repeat (first | refine inB_r ?_ | refine andThen_r ?_)); refine retQ_r ?_)
      exact Ends.cv [.prim (.slice none 0 0), iA _] [compsA true false [], iA _] (.cons (.cell .nil) (.cons (.cell .same) .nil))
    have hd3 : (fitOf k cv).2 = 0 := by simpa using hd3
    rw [if_neg (by simp [hd3])] at hfold
    have hm1 : m + 1 ≤ 1099511627776 := by omega
    (repeat (first | (refine AOps.gN ?_; first | (refine AOps.g_lit ?_; refine AOps.goL (compA false ⟨j, (fitOf k cv).1⟩) ?_)) | refine WK ?_ | refine All.i fun X => ?_ | refine AllY.i fun Y => ?_))
    refine lp_next4 (q + 1) Y (m + 1) (M ++ [compA false ⟨j, (fitOf k cv).1⟩]) ⟨h, by rw [List.length_append, hm]; rfl, by omega, out ++ [⟨j, (fitOf k cv).1⟩], by rw [hM, List.map_append]; rfl, ?_⟩
    rw [List.take_succ_eq_append_getElem h, hcq]
    exact hfold
  · have h : q = l.length := by rw [decide_eq_false_iff_not, hlm] at he; omega
    rw [h, List.take_length, List.drop_length, fitGo] at hfold
    subst hfold
    dsimp only at hr hgo
    rw [if_neg (by simp)] at hr
    subst hr
    obtain ⟨hg1, hg2⟩ := hgo rfl
    have hlen : out.length ≤ 12 := Nat.le_trans (nodup_le Comp.kind _ _ hg1 hg2) h12
    obtain ⟨u, ⟨hu1, hu2⟩, hsf⟩ := sortFuncC_sp 80 [] (fun x y => cmpI x.kind y.kind) rfl (swo_key Comp.kind) (fun x y => fit2_ps x y) Y m out (by rw [hm, hM, List.length_map]) hlen
    rw [← hM] at hsf
    (repeat (first | (refine AOps.gN ?_; first | (refine AOps.g_callf ?_; first | refine AOps.o2 (h := (hsf ..)) (k := ?_))) | refine WK ?_ | refine All.i fun X => ?_ | refine AllY.i fun Y => ?_))
    have hu : u = kSort out := kSort_uniq hg1 hu1 (hu2.imp fun {a b} hab => by simp only [ltOf, decide_eq_false_iff_not, cmpI_neg] at hab; omega)
    have hul : m = (u.map (compA false)).length := by rw [hm, hM, List.length_map, List.length_map, hu1.length_eq]
    (refine AWP.ret ?_; (repeat (first | refine inB_r ?_ | refine andThen_r ?_)); refine retQ_r ?_)
    rw [← hu]
    exact Ends.cv [.sl Y 0 m, iA 0] [compsA true false u, iA 0] (.cons (.cell (.sl (p := 0) .here hul)) (.cons (.cell .same) .nil))
end Go.Proofs.Ytcnfcilfacgnnaa

namespace Go.Proofs.Ytcnfcilfacgnnaa
set_option linter.unusedVariables false
set_option maxHeartbeats 1000000 in
theorem insertT_sp (X V n i : Nat) (l : List AV) (e : AV) (hn : n = l.length) (hi : i ≤ n) (hb : (n + 1) * 40 ≤ 140737488355328) (hfr : FreeL l) (hfe : FreeE e) (hw : ∀ x ∈ l, x.width = 3) (hwe : e.width = 3) (hze : AV.frzs [e] = [e]) :
    Spec Try.prog 55 [.sl X 0 n, iA i, .sl V 0 1] [(X, .row 48 3 l), (V, .row 48 3 [e])] fun r S' => r = .lst true 48 3 (l.take i ++ e :: l.drop i) ∧ S' = [] := by
  refine Spec.of (nt := 95) (res := [.tmp 6]) Try.func55 rfl (by kernel_rfl) rfl rfl rfl fun Sf => ?_
  have hfV : FreeL [e] := fun x hx => by rw [List.mem_singleton.1 hx]; exact hfe
  have hwV : ∀ x ∈ [e], x.width = 3 := fun x hx => by rw [List.mem_singleton.1 hx]; exact hwe
  (repeat refine WF ?_); refine AWP.region ?_; (repeat (first | refine WO ?_ | refine All.i fun X => ?_ | refine AllY.i fun Y => ?_)); refine AOps.nil ?_; (repeat refine WN ?_)
  (repeat refine WF ?_); refine AWP.region ?_; (repeat (first | (refine AOps.gN ?_; first | refine AOps.p (W.slice_lo rfl rfl (by exact At.f) rfl (by omega)) rfl ?_) | refine WO ?_ | refine All.i fun X => ?_ | refine AllY.i fun Y => ?_)); refine AOps.nil ?_; (repeat refine WN ?_)
  (repeat refine WF ?_); refine AWP.region ?_; (repeat (first | refine WO ?_ | refine All.i fun X => ?_ | refine AllY.i fun Y => ?_)); refine AOps.nil ?_; (repeat refine WN ?_)
  (repeat refine WF ?_); refine AWP.region ?_; (repeat (first | refine WO ?_ | refine All.i fun X => ?_ | refine AllY.i fun Y => ?_)); refine AOps.nil ?_; (repeat refine WN ?_)
  refine AWP.cond_f rfl rfl ?_
  (repeat refine WF ?_); refine AWP.region ?_; (repeat (first | refine WO ?_ | refine All.i fun X => ?_ | refine AllY.i fun Y => ?_)); refine AOps.nil ?_; (repeat refine WN ?_)
  (repeat refine WF ?_); refine AWP.region ?_; (repeat (first | refine WO ?_ | refine All.i fun X => ?_ | refine AllY.i fun Y => ?_)); refine AOps.nil ?_; (repeat refine WN ?_)
  by_cases hin : i = n
  · refine AWP.cond_t rfl (decide_eq_true (by omega)) ?_
    refine AWP.iceL 2 [e] hze ?_
    have hbb : (n + [e].length) * 40 ≤ 140737488355328 := hb
    (repeat (first | refine WK ?_ | refine All.i fun X => ?_ | refine AllY.i fun Y => ?_))
    (refine AWP.ret ?_; (repeat (first | refine inB_r ?_ | refine andThen_r ?_)); refine retQ_r ?_)
    have hm : n + [e].length = (l ++ [e]).length := by rw [List.length_append, hn]
    have hr : l ++ [e] = l.take i ++ e :: l.drop i := by rw [hin, hn, List.take_length, List.drop_length]
    rw [← hr]
    exact ⟨[.sl Y 0 (n + [e].length)], [.lst true 48 3 (l ++ [e])], _, [], .cons (.tmp rfl) rfl .nil, .cons (.cell (.sl (p := 0) .here hm)) .nil, by exact Sub.f, rfl, rfl⟩
  · refine AWP.cond_f rfl (decide_eq_false (by omega)) ?_
    refine AWP.cap X fun Z c u0 hc hnc => ?_
    (repeat refine WF ?_); refine AWP.region ?_; (repeat (first | (refine AOps.gN ?_; first | refine AOps.p (W.cap hc rfl (by exact At.f) (by exact At.f)) rfl ?_) | refine WO ?_ | refine All.i fun X => ?_ | refine AllY.i fun Y => ?_)); refine AOps.nil ?_; (repeat refine WN ?_)
    refine AWP.cond rfl (fun hg => ?_) (fun hg => ?_)
    · have hcn : c < n + 1 := by rw [decide_eq_true_eq] at hg; omega
      refine AWP.rs fun Y => ?_
      (repeat refine WF ?_); refine AWP.region ?_; (repeat (first | (refine AOps.gN ?_; first | refine AOps.p (W.hi (a := i) rfl rfl (by exact At.f) rfl hi) rfl ?_ | refine AOps.p (W.subE ((n + 1 - i : Nat) : Int) (by omega) (by omega) rfl rfl) rfl ?_ | refine AOps.s (W.appzG (n + 1 - i) hc rfl rfl (by exact At.f) (by exact At.f) (by exact At.f) rfl (by exact .inl rfl) (by rfl) (by kernel_rfl) (by omega) (by omega) (by decide) (by omega) (by omega) hfr) rfl ?_) | refine WO ?_ | refine All.i fun X => ?_ | refine AllY.i fun Y => ?_))
      have hsum : i + (n + 1 - i) = n + 1 := by omega
      obtain ⟨l1, hl1⟩ : ∃ l1, l.take i ++ List.replicate (n + 1 - i) (zAV [.int .i64 0, .int .i64 0, .slice none 0 0] true) = l1 := ⟨_, rfl⟩
      have hti : (l.take i).length = i := by rw [List.length_take]; omega
      have hl1n : l1.length = n + 1 := by rw [← hl1, List.length_append, hti, List.length_replicate, hsum]
      have hfr1 : FreeL l1 := fun x hx => by
        rw [← hl1] at hx
        rcases List.mem_append.1 hx with hx | hx
        · exact hfr x (List.mem_of_mem_take hx)
        · rw [List.eq_of_mem_replicate hx]
          exact FreeE.agg (us := [.prim (.int .i64 0), .prim (.int .i64 0), .prim (.slice none 0 0)]) fun y hy => by
            simp only [List.mem_cons, List.not_mem_nil, or_false] at hy
            rcases hy with rfl | rfl | rfl <;> exact FreeE.prim _
      have htk : l1.take i = l.take i := by rw [← hl1, List.take_left' hti]
      rw [hl1, hsum]
      (repeat first | refine AOps.nil ?_ | refine WF ?_)
      (repeat refine WF ?_); refine AWP.region ?_; (repeat (first | (refine AOps.gN ?_; first | refine AOps.p (W.slice_lo rfl rfl (by exact At.f) rfl (by omega)) rfl ?_ | refine AOps.s (W.copyO 1 rfl rfl (by exact At.f) (by exact At.f) (by rfl) (by omega) (by omega) (by omega) (by omega) (by exact Nat.le_refl _) hfr1 hfV hwV) rfl ?_) | refine WO ?_ | refine All.i fun X => ?_ | refine AllY.i fun Y => ?_))
      obtain ⟨l2, hl2⟩ : ∃ l2, l1.take (0 + i) ++ ([e].drop 0).take 1 ++ l1.drop (0 + i + 1) = l2 := ⟨_, rfl⟩
      rw [hl2]
      have hl2n : l2.length = n + 1 := by rw [← hl2]; simp only [List.length_append, List.length_take, List.length_drop, List.length_singleton]; omega
      have hfr2 : FreeL l2 := fun x hx => by
        rw [← hl2] at hx
        rcases List.mem_append.1 hx with hx | hx
        · rcases List.mem_append.1 hx with hx | hx
          · exact hfr1 x (List.mem_of_mem_take hx)
          · exact hfV x (List.mem_of_mem_drop (List.mem_of_mem_take hx))
        · exact hfr1 x (List.mem_of_mem_drop hx)
      have htk2 : l2.take (0 + (i + 1)) = l.take i ++ [e] := by
        rw [← hl2, Nat.zero_add, Nat.zero_add, htk]
        exact List.take_left' (by simp [hti])
      (repeat first | refine AOps.nil ?_ | refine WF ?_)
      (repeat refine WF ?_); refine AWP.region_run (by kernel_rfl) (by kernel_rfl) ?_; (repeat (first | (refine RGo.gN ?_; first | refine RGo.go (h := W.addE ((i + 1 : Nat) : Int) (by omega) (by omega) rfl rfl) (k := ?_) | refine RGo.go (h := W.slice_lo rfl rfl (by exact At.f) rfl (by omega)) (k := ?_) | refine RGo.goS (h := W.copyO (n - i) rfl rfl (by exact At.f) (by exact At.f) (by rfl) (by omega) (by omega) (by omega) (by omega) (by omega) hfr2 hfr hw) (k := ?_)) | (refine RGo.gQ ?_; first | refine RGo.go (h := W.addE ((i + 1 : Nat) : Int) (by omega) (by omega) rfl rfl) (k := ?_) | refine RGo.go (h := W.slice_lo rfl rfl (by exact At.f) rfl (by omega)) (k := ?_) | refine RGo.goS (h := W.copyO (n - i) rfl rfl (by exact At.f) (by exact At.f) (by rfl) (by omega) (by omega) (by omega) (by omega) (by omega) hfr2 hfr hw) (k := ?_)) | refine RK ?_ | refine RGo.nil (by kernel_rfl) ?_))
      obtain ⟨l3, hl3⟩ : ∃ l3, l2.take (0 + (i + 1)) ++ (l.drop (0 + i)).take (n - i) ++ l2.drop (0 + (i + 1) + (n - i)) = l3 := ⟨_, rfl⟩
      rw [hl3]
      have hr : l3 = l.take i ++ e :: l.drop i := by
        have e1 : l2.drop (0 + (i + 1) + (n - i)) = [] := List.drop_of_length_le (by omega)
        have e2 : (l.drop (0 + i)).take (n - i) = l.drop i := by rw [Nat.zero_add]; exact List.take_of_length_le (by rw [List.length_drop]; omega)
        rw [← hl3, htk2, e1, e2, List.append_nil, List.append_assoc]; rfl
      have hm : n + 1 = l3.length := by
        rw [hr]; simp only [List.length_append, List.length_cons, List.length_drop, hti]; omega
      (repeat (first | refine WK ?_ | refine All.i fun X => ?_ | refine AllY.i fun Y => ?_))
      (refine AWP.ret ?_; (repeat (first | refine inB_r ?_ | refine andThen_r ?_)); refine retQ_r ?_)
      rw [← hr]
      exact ⟨[.sl Y 0 (n + 1)], [.lst true 48 3 l3], _, [], .cons (.tmp rfl) rfl .nil, .cons (.cell (.sl (p := 0) .here hm)) .nil, by exact Sub.f, rfl, rfl⟩
    · have hcn : n + 1 ≤ c := by rw [decide_eq_false_iff_not] at hg; omega
      (repeat refine WF ?_); refine AWP.region ?_; (repeat (first | (refine AOps.gN ?_; first | refine AOps.p (W.sliceC (n + 1) hc rfl rfl (by exact At.f) (by exact At.f) (by omega) hcn) rfl ?_) | refine WO ?_ | refine All.i fun X => ?_ | refine AllY.i fun Y => ?_)); refine AOps.nil ?_; (repeat refine WN ?_)
      (repeat refine WF ?_); refine AWP.region ?_; (repeat (first | (refine AOps.gN ?_; first | refine AOps.p (W.addE ((i + 1 : Nat) : Int) (by omega) (by omega) rfl rfl) rfl ?_ | refine AOps.p (W.slice_lo rfl rfl (by exact At.f) rfl (by omega)) rfl ?_) | refine WO ?_ | refine All.i fun X => ?_ | refine AllY.i fun Y => ?_))
      refine AOps.p (W.over (t := 24) (tR := 4) Try.func94 (by kernel_rfl) (by kernel_rfl) (by kernel_rfl) (by kernel_rfl) rfl rfl (by exact At.f) (by exact At.f) (by rfl) (by decide) (by omega) (by omega)) rfl ?_
      (repeat (first | refine WO ?_ | refine All.i fun X => ?_ | refine AllY.i fun Y => ?_))
      (repeat first | refine AOps.nil ?_ | refine WF ?_)
      refine AWP.cond_t rfl rfl ?_
      (repeat refine WF ?_); refine AWP.region_run (by kernel_rfl) (by kernel_rfl) ?_; (repeat (first | (refine RGo.gN ?_; first | refine RGo.go (h := W.addE ((i + 1 : Nat) : Int) (by omega) (by omega) rfl rfl) (k := ?_) | refine RGo.go (h := W.slice_lo rfl rfl (by exact At.f) rfl (by omega)) (k := ?_) | refine RGo.goS (h := W.copyS (n - i) rfl rfl (by exact At.f) (by omega) (by omega) (by omega) (by omega) (by omega) hfr hw) (k := ?_)) | (refine RGo.gQ ?_; first | refine RGo.go (h := W.addE ((i + 1 : Nat) : Int) (by omega) (by omega) rfl rfl) (k := ?_) | refine RGo.go (h := W.slice_lo rfl rfl (by exact At.f) rfl (by omega)) (k := ?_) | refine RGo.goS (h := W.copyS (n - i) rfl rfl (by exact At.f) (by omega) (by omega) (by omega) (by omega) (by omega) hfr hw) (k := ?_)) | refine RK ?_ | refine RGo.nil (by kernel_rfl) ?_))
      have hti : (l.take i).length = i := by rw [List.length_take]; omega
      obtain ⟨l1, hl1⟩ : ∃ l1, l.take (0 + (i + 1)) ++ (l.drop (0 + i)).take (n - i) ++ l.drop (0 + (i + 1) + (n - i)) = l1 := ⟨_, rfl⟩
      rw [hl1]
      have hti1 : (l.take (i + 1)).length = i + 1 := by rw [List.length_take]; omega
      have hl1e : l1 = l.take (i + 1) ++ l.drop i := by
        have e1 : l.drop (0 + (i + 1) + (n - i)) = [] := List.drop_of_length_le (by omega)
        have e2 : (l.drop (0 + i)).take (n - i) = l.drop i := by rw [Nat.zero_add]; exact List.take_of_length_le (by rw [List.length_drop]; omega)
        rw [← hl1, e1, e2, List.append_nil, Nat.zero_add]
      have hfr1 : FreeL l1 := fun x hx => by
        rw [hl1e] at hx
        rcases List.mem_append.1 hx with hx | hx
        · exact hfr x (List.mem_of_mem_take hx)
        · exact hfr x (List.mem_of_mem_drop hx)
      have hl1n : l1.length = n + 1 := by rw [hl1e, List.length_append, hti1, List.length_drop]; omega
      have htk : l1.take i = l.take i := by rw [hl1e, List.take_append_of_le_length (by omega), List.take_take, Nat.min_eq_left (by omega)]
      have hdr : l1.drop (i + 1) = l.drop i := by rw [hl1e, List.drop_left' hti1]
      (repeat refine WF ?_); refine AWP.region ?_; (repeat (first | (refine AOps.gN ?_; first | refine AOps.p (W.slice_lo rfl rfl (by exact At.f) rfl (by omega)) rfl ?_ | refine AOps.s (W.copyO 1 rfl rfl (by exact At.f) (by exact At.f) (by rfl) (by omega) (by omega) (by omega) (by omega) (by exact Nat.le_refl _) hfr1 hfV hwV) rfl ?_) | refine WO ?_ | refine All.i fun X => ?_ | refine AllY.i fun Y => ?_))
      obtain ⟨l2, hl2⟩ : ∃ l2, l1.take (0 + i) ++ ([e].drop 0).take 1 ++ l1.drop (0 + i + 1) = l2 := ⟨_, rfl⟩
      rw [hl2]
      have hr : l2 = l.take i ++ e :: l.drop i := by
        rw [← hl2, Nat.zero_add, htk, hdr, List.append_assoc]; rfl
      have hm : n + 1 = l2.length := by
        rw [hr]; simp only [List.length_append, List.length_cons, List.length_drop, hti]; omega
      (repeat first | refine AOps.nil ?_ | refine WF ?_)
      (repeat (first | refine WK ?_ | refine All.i fun X => ?_ | refine AllY.i fun Y => ?_))
      (refine AWP.ret ?_; (repeat (first | refine inB_r ?_ | refine andThen_r ?_)); refine retQ_r ?_)
      rw [← hr]
      exact ⟨[.sl X 0 (n + 1)], [.lst true 48 3 l2], _, [], .cons (.tmp rfl) rfl .nil, .cons (.cell (.sl (p := 1) (.next .here) hm)) .nil, by exact Sub.f, rfl, rfl⟩
end Go.Proofs.Ytcnfcilfacgnnaa

namespace Go.Proofs.Ytcnfcilfacgnnaa
set_option linter.unusedVariables false
theorem searchKT_sp (l : List Item) (t : AV) (f : FuncId) (cap : List AV) (g : Item → Int) (t0 : Int) (ht : t = iA t0) (hs : st1s cap = true) (hl : l.length ≤ 4611686018427387904) (hf : ∀ x ∈ l, PS Try.prog f (itemA false x :: t :: cap) (iA (g x))) :
    Spec Try.prog 52 [itemsA false false l, t, .fn f cap] [] fun r S' => ∃ b, Found g l b ∧ r = .tup [iA b.1, bA b.2] ∧ S' = [] := by
  subst ht
  refine Spec.of (nt := 49) (res := [.tmp 6, .tmp 7]) Try.func52 rfl (by kernel_rfl) rfl rfl rfl fun Sf => ?_
  have hlm : (l.map (itemA false)).length = l.length := List.length_map _
  (repeat (first | refine WK ?_ | refine All.i fun X => ?_ | refine AllY.i fun Y => ?_))
  refine AWP.lp2 (fun (i j : Nat) => ⟨[(0, itemsA false false l), (1, iA t0), (2, .fn f cap), (8, iA (l.map (itemA false)).length), (9, iA i), (10, iA j)], Sf⟩) (fun i j => i ≤ j ∧ j ≤ l.length ∧ (MonoL g l → Spl g l i j)) (fun i j => j - i) 0 (l.map (itemA false)).length ⟨Nat.zero_le _, by omega, fun _ => ⟨fun k x h => absurd h (by omega), fun k x h hx => by have := (List.getElem?_eq_some_iff.1 hx).1; omega⟩⟩ ?_
  rintro i j ⟨hij, hjn, hmono⟩
  (repeat (first | refine WK ?_ | refine All.i fun X => ?_ | refine AllY.i fun Y => ?_))
  refine AWP.cond rfl (fun hc => ?_) (fun hc => ?_)
  · have h : i < j := by rw [decide_eq_true_eq] at hc; omega
    have hmid : ((i : Int) + j).fdiv (2 ^ 1) = (((i + j) / 2 : Nat) : Int) := by
      rw [Int.fdiv_eq_ediv_of_nonneg _ (by decide)]; omega
    have hw1 : IntKind.u64.wrap ((i : Int) + j) = i + j := by rw [IntKind.wrap_u64]; omega
    have hw2 : IntKind.i64.wrap (((i : Int) + j).fdiv (2 ^ 1)) = ((i : Int) + j).fdiv (2 ^ 1) := by
      rw [IntKind.wrap_i64, hmid]; omega
    (repeat refine WF ?_); refine AWP.region ?_; (repeat (first | (refine AOps.gN ?_; first | refine AOps.p (W.conv .i64 .u64 (by kernel_rfl) (by kernel_rfl) rfl hw1) rfl ?_ | refine AOps.p (W.shr 1 rfl rfl rfl (by decide)) rfl ?_ | refine AOps.p (W.conv .u64 .i64 (by kernel_rfl) (by kernel_rfl) rfl hw2) rfl ?_) | refine WO ?_ | refine All.i fun X => ?_ | refine AllY.i fun Y => ?_)); refine AOps.nil ?_; (repeat refine WN ?_)
    rw [hmid]
    obtain ⟨m, hm⟩ : ∃ m, (i + j) / 2 = m := ⟨_, rfl⟩
    rw [hm]
    have hml : m < l.length := by omega
    obtain ⟨y, hy⟩ : ∃ y, l[m] = y := ⟨_, rfl⟩
    have hya : l[m]? = some y := by rw [List.getElem?_eq_getElem hml, hy]
    have hat : (l.map (itemA false))[m]? = some (itemA false y) := by rw [List.getElem?_map, hya]; rfl
    have hfy := hf y (by rw [← hy]; exact List.getElem_mem hml)
    (repeat refine WF ?_); refine AWP.region ?_; (repeat (first | (refine AOps.gN ?_; first | (refine AOps.g_callv ?_; first | refine AOps.k2 (h := (hfy ..)) (k := ?_))) | refine WO ?_ | refine All.i fun X => ?_ | refine AllY.i fun Y => ?_)); refine AOps.nil ?_; (repeat refine WN ?_)
    refine AWP.cond rfl (fun he => ?_) (fun he => ?_)
    · have he : g y < 0 := by simpa using he
      (repeat (first | refine WK ?_ | refine All.i fun X => ?_ | refine AllY.i fun Y => ?_))
      refine lp_next2 (m + 1) j ⟨by omega, hjn, fun hM => (hmono hM).lo hM hya he⟩
    · have he : ¬ g y < 0 := by simpa using he
      (repeat (first | refine WK ?_ | refine All.i fun X => ?_ | refine AllY.i fun Y => ?_))
      refine lp_next2 i m ⟨by omega, by omega, fun hM => (hmono hM).hi hM hya he⟩
  · have h : i = j := by rw [decide_eq_false_iff_not] at hc; omega
    subst h
    by_cases hin : i < l.length
    · have hil : i < l.length := by omega
      have g1 : decide ((i : Int) < (l.map (itemA false)).length) = true := decide_eq_true (by omega)
      obtain ⟨y, hy⟩ : ∃ y, l[i] = y := ⟨_, rfl⟩
      have hya : l[i]? = some y := by rw [List.getElem?_eq_getElem hil, hy]
      have hat : (l.map (itemA false))[i]? = some (itemA false y) := by rw [List.getElem?_map, hya]; rfl
      have hfy := hf y (by rw [← hy]; exact List.getElem_mem hil)
      (repeat (first | (refine AOps.gN ?_; first | (refine AOps.g_callv ?_; first | refine AOps.k2 (h := (hfy ..)) (k := ?_))) | refine WK ?_ | refine All.i fun X => ?_ | refine AllY.i fun Y => ?_))
      (refine AWP.ret ?_; (repeat (first | refine inB_r ?_ | refine andThen_r ?_)); refine retQ_r ?_)
      exact ⟨[iA i, bA (decide (g y = 0))], [iA i, bA (decide (g y = 0))], _, [], .cons (.tmp rfl) rfl (.cons (.tmp rfl) rfl .nil), .cons (.cell .same) (.cons (.cell .same) .nil), by exact Sub.f, (i, decide (g y = 0)), ⟨by simp; omega, by simp [hya], hmono⟩, rfl, rfl⟩
    · have g1 : decide ((i : Int) < (l.map (itemA false)).length) = false := decide_eq_false (by omega)
      (repeat (first | refine WK ?_ | refine All.i fun X => ?_ | refine AllY.i fun Y => ?_))
      (refine AWP.ret ?_; (repeat (first | refine inB_r ?_ | refine andThen_r ?_)); refine retQ_r ?_)
      exact ⟨[iA i, bA false], [iA i, bA false], _, [], .cons (.tmp rfl) rfl (.cons (.tmp rfl) rfl .nil), .cons (.cell .same) (.cons (.cell .same) .nil), by exact Sub.f, (i, false), ⟨by simp; omega, by simp [List.getElem?_eq_none (show l.length ≤ i by omega)], hmono⟩, rfl, rfl⟩
end Go.Proofs.Ytcnfcilfacgnnaa

namespace Go.Proofs.Ytcnfcilfacgnnaa
set_option linter.unusedVariables false
theorem spawn1_ps (x : Item) (k : Int) : PS Try.prog 53 [itemA false x, iA k] (iA (cmpI x.ent.n k)) := by
  refine Spec.of (nt := 10) (res := [.tmp 4]) Try.func53 rfl (by kernel_rfl) rfl rfl rfl fun Sf => ?_
  (repeat (first | (refine AOps.gN ?_; first | (refine AOps.g_callf ?_; first | refine AOps.c2 (h := (compare_ps x.ent.n k)) (k := ?_)) | (refine AOps.g_box ?_; refine AOps.goB ?_)) | refine WK ?_ | refine All.i fun X => ?_ | refine AllY.i fun Y => ?_))
  (refine AWP.ret ?_; (repeat (first | refine inB_r ?_ | refine andThen_r ?_)); refine retQ_r ?_); refine Ends.ps ?_
  rfl
/-- A world with gens and items that are its own. -/
def wdS (w : Wd) : AV := .agg [kindsA false false w.kinds, intsA true w.gens, itemsA true false w.items]
instance {w : Wd} : Frz (wdS w) (wdA false w) := ⟨by unfold wdS wdA; exact Frz.h⟩
set_option maxHeartbeats 1000000 in
theorem spawn_ps (w : Wd) (l : List Comp) (hw : WdL w) (h12 : w.kinds.length ≤ 12) (hl : l.length ≤ 1099511627776) : PS Try.prog 22 [wdA false w, compsA false false l] (.tup [wdS (spawnOf w l).1, entA (spawnOf w l).2.1, iA (spawnOf w l).2.2]) := by
  have hck := check_ps' w hw.gens hw.items.1 (fun it hit => (hw.items.2 it hit).1)
  have hft := wfit_ps w.kinds l h12 hl
  have hfr := free_ps w hw.gens hw.items.1
  have hcp := copy_ps w hw
  obtain ⟨r, hr⟩ : ∃ r, spawnOf w l = r := ⟨_, rfl⟩
  rw [hr]
  unfold spawnOf at hr
  obtain ⟨we, hwe⟩ : ∃ we, wdErr w = we := ⟨_, rfl⟩
  rw [hwe] at hck hr
  refine Spec.of (nt := 80) (res := [.cell 4 26, .cell 5 30, .tmp 6]) Try.func22 rfl (by kernel_rfl) rfl rfl rfl fun Sf => ?_
  (repeat refine WF ?_)
  refine AWP.region ?_
  refine AOps.goF fun P => ?_
  refine AOps.goF fun R => ?_
  refine AOps.goF fun Q => ?_
  (repeat (first | refine WO ?_ | refine All.i fun X => ?_ | refine AllY.i fun Y => ?_))
  (repeat first | refine AOps.nil ?_ | refine WF ?_)
  (repeat (first | (refine AOps.gN ?_; first | (refine AOps.g_callf ?_; first | refine AOps.c1 (h := (hck ..)) (k := ?_))) | refine WK ?_ | refine All.i fun X => ?_ | refine AllY.i fun Y => ?_))
  by_cases hd : we ≠ 0
  · rw [if_pos hd] at hr
    subst hr
    refine AWP.cond_t rfl (decide_eq_true hd) ?_
    (repeat (first | refine WK ?_ | refine All.i fun X => ?_ | refine AllY.i fun Y => ?_))
    (refine AWP.ret ?_; (repeat (first | refine inB_r ?_ | refine andThen_r ?_)); refine retQ_r ?_)
    exact Ends.cv [.agg [.prim (.slice none 0 0), .prim (.slice none 0 0), .prim (.slice none 0 0)], entA ⟨0, 0⟩, iA we] [wdS wdE, entA ⟨0, 0⟩, iA we] (.cons (.agg (.cons .nil (.cons .nil (.cons .nil .nil)))) (.cons (.agg (.cons .same (.cons .same .nil))) (.cons (.cell .same) .nil)))
  rw [if_neg hd] at hr
  refine AWP.cond_f rfl (decide_eq_false hd) ?_
  (repeat (first | (refine AOps.gN ?_; first | (refine AOps.g_callf ?_; first | refine AOps.c2 (h := (hft ..)) (k := ?_))) | refine WK ?_ | refine All.i fun X => ?_ | refine AllY.i fun Y => ?_))
  by_cases hf : (wFit w.kinds l).2 ≠ 0
  · rw [if_pos hf] at hr
    subst hr
    refine AWP.cond_t rfl (decide_eq_true hf) ?_
    (repeat (first | refine WK ?_ | refine All.i fun X => ?_ | refine AllY.i fun Y => ?_))
    (refine AWP.ret ?_; (repeat (first | refine inB_r ?_ | refine andThen_r ?_)); refine retQ_r ?_)
    exact Ends.cv [.agg [.prim (.slice none 0 0), .prim (.slice none 0 0), .prim (.slice none 0 0)], entA ⟨0, 0⟩, iA _] [wdS wdE, entA ⟨0, 0⟩, iA _] (.cons (.agg (.cons .nil (.cons .nil (.cons .nil .nil)))) (.cons (.agg (.cons .same (.cons .same .nil))) (.cons (.cell .same) .nil)))
  rw [if_neg hf] at hr
  obtain ⟨cs, hcs⟩ : ∃ cs, (wFit w.kinds l).1 = cs := ⟨_, rfl⟩
  rw [hcs] at hr
  refine AWP.cond_f rfl (decide_eq_false hf) ?_
  (repeat (first | (refine AOps.gN ?_; first | (refine AOps.g_callf ?_; first | refine AOps.c1 (h := (hfr ..)) (k := ?_))) | refine WK ?_ | refine All.i fun X => ?_ | refine AllY.i fun Y => ?_))
  have hok := (wdErr_iff w).1 (hwe.trans (by simpa using hd))
  by_cases hb : (freeOf w).2 = false
  · rw [if_pos hb] at hr
    subst hr
    refine AWP.cond_t rfl (by rw [hb]; rfl) ?_
    (repeat (first | refine WK ?_ | refine All.i fun X => ?_ | refine AllY.i fun Y => ?_))
    (refine AWP.ret ?_; (repeat (first | refine inB_r ?_ | refine andThen_r ?_)); refine retQ_r ?_)
    exact Ends.cv [.agg [.prim (.slice none 0 0), .prim (.slice none 0 0), .prim (.slice none 0 0)], entA ⟨0, 0⟩, iA 6] [wdS wdE, entA ⟨0, 0⟩, iA 6] (.cons (.agg (.cons .nil (.cons .nil (.cons .nil .nil)))) (.cons (.agg (.cons .same (.cons .same .nil))) (.cons (.cell .same) .nil)))
  rw [if_neg hb] at hr
  have hb : (freeOf w).2 = true := by simpa using hb
  obtain ⟨f1, f2, f3, f4⟩ := free_facts hok hb
  refine AWP.cond_f rfl (by rw [hb]; rfl) ?_
  obtain ⟨n, hn⟩ : ∃ n, (freeOf w).1 = n := ⟨_, rfl⟩
  rw [hn] at hr f1 f2 f3 f4 ⊢
  obtain ⟨g1, g2, g3, g4, g5, g6⟩ := growG_at f1
  refine AWP.rs fun I => AWP.rs fun G => ?_
  (repeat refine WF ?_); refine AWP.region ?_; (repeat (first | (refine AOps.gN ?_; first | (refine AOps.g_callf ?_; first | refine AOps.z1 (h := hcp) (hT := .v (.agg (.cons .fz (.cons (.lst (Y := G) rfl) (.cons (.lst (Y := I) rfl) .nil))))) (k := ?_))) | refine WO ?_ | refine All.i fun X => ?_ | refine AllY.i fun Y => ?_)); refine AOps.nil ?_; (repeat refine WN ?_)
  have hgm : (w.gens.map iA).length = w.gens.length := List.length_map _
  have him : (w.items.map itemB).length = w.items.length := List.length_map _
  have hgl := hok.gl
  have hil := hw.items.1
  (repeat refine WF ?_); refine AWP.region ?_; (repeat (first | refine WO ?_ | refine All.i fun X => ?_ | refine AllY.i fun Y => ?_)); refine AOps.nil ?_; (repeat refine WN ?_)
  refine AWP.joinS (fun b : Nat × Nat × List AV => b.2.1 = b.2.2.length ∧ b.2.2 = (growG w.gens n).map iA) (fun b => ⟨[(2, .ptr P 0 0), (4, .ptr R 0 0), (5, .ptr Q 0 0), (8, compsA false false (wFit w.kinds l).1), (10, iA n)], (b.1, .row 3 1 b.2.2) :: (I, .row 48 3 (w.items.map itemB)) :: (Q, .row 30 2 [entA ⟨0, 0⟩]) :: (R, .row 26 3 [.agg [.prim (.slice none 0 0), .prim (.slice none 0 0), .prim (.slice none 0 0)]]) :: (P, .row 26 3 [.agg [kindsA false false w.kinds, .sl b.1 0 b.2.1, .sl I 0 (w.items.map itemB).length]]) :: Sf⟩) ?_ ?_
  · by_cases hc : n = w.gens.length
    · refine AWP.cond_t rfl (decide_eq_true (by omega)) ?_
      have hb1 : (w.gens.map iA).length + 1 ≤ 1099511627776 := by omega
      (repeat (first | (refine AOps.gN ?_; first | (refine AOps.g_lit ?_; refine AOps.goL (iA 0) ?_)) | refine WK ?_ | refine All.i fun X => ?_ | refine AllY.i fun Y => ?_))
      exact jn (Y, (w.gens.map iA).length + 1, w.gens.map iA ++ [iA 0]) ⟨by simp, by unfold growG; rw [if_pos hc, List.map_append]; rfl⟩
    · refine AWP.cond_f rfl (decide_eq_false (by omega)) ?_
      (repeat (first | refine WK ?_ | refine All.i fun X => ?_ | refine AllY.i fun Y => ?_))
      exact jn (G, (w.gens.map iA).length, w.gens.map iA) ⟨rfl, by unfold growG; rw [if_neg hc]⟩
  · rintro ⟨G, m, L⟩ ⟨hm, hL⟩
    dsimp only at hm hL ⊢
    obtain ⟨gens, hgens⟩ : ∃ gens, growG w.gens n = gens := ⟨_, rfl⟩
    rw [hgens] at hL g1 g2 hr
    obtain ⟨g, hg⟩ : ∃ g, gens.getD n 0 = g := ⟨_, rfl⟩
    rw [hg] at g2 hr
    have hat : L[n]? = some (iA g) := by rw [hL, List.getElem?_map, g2]; rfl
    have hnm : n < m := by rw [hm, hL, List.length_map]; exact g1
    (repeat refine WF ?_); refine AWP.region ?_; (repeat (first | refine WO ?_ | refine All.i fun E => ?_ | refine AllY.i fun Y => ?_)); refine AOps.nil ?_; (repeat refine WN ?_)
    have hse := searchKT_sp w.items (iA n) 53 [] (fun x => cmpI x.ent.n n) n rfl rfl (by omega) (fun x _ => spawn1_ps x n)
    (repeat refine WF ?_); refine AWP.region ?_; (repeat (first | refine WO ?_ | refine All.i fun X => ?_ | refine AllY.i fun Y => ?_))
    refine AOps.be3 (h := hse) (l0 := Ld.row) (l1 := .frz) (l2 := .frz) (k := fun b hb => ?_)
    have hbi := found_atI hok.so hb
    have hbl := hb.le
    obtain ⟨bi, bb⟩ := b
    dsimp only at hbi hbl ⊢
    (repeat (first | refine WO ?_ | refine All.i fun X => ?_ | refine AllY.i fun Y => ?_))
    (repeat first | refine AOps.nil ?_ | refine WF ?_)
    refine AWP.frzRow I (w.items.map (itemA false)) (items_frzB w.items) ?_
    refine AWP.rs fun Y => AWP.rs fun K2 => ?_
    rw [hcs]
    have hin2 := (insertT_sp I K2 (w.items.map itemB).length bi (w.items.map (itemA false)) (itemA false ⟨⟨n, g⟩, cs⟩) (by simp) (by omega) (by omega) (items_free w.items) (item_free _) (items_wid w.items) rfl (by show [(itemA false ⟨⟨n, g⟩, cs⟩).frz] = _; rw [(inferInstance : Frz (itemA false ⟨⟨n, g⟩, cs⟩) (itemA false ⟨⟨n, g⟩, cs⟩)).h])).used2
    (repeat refine WF ?_); refine AWP.region ?_; (repeat (first | (refine AOps.gN ?_; first | (refine AOps.g_callf ?_; first | refine AOps.z3 (h := hin2) (hT := .ls (Y := Y)) (k := ?_)) | refine AOps.s (W.lit1 (X := K2) (l := [itemA false ⟨⟨n, g⟩, cs⟩]) (by exact rfl) (by exact At.f) (by exact rfl) (by exact .inl rfl) (by decide) (by decide) (by exact rfl)) rfl ?_) | refine WO ?_ | refine All.i fun X => ?_ | refine AllY.i fun Y => ?_)); refine AOps.nil ?_; (repeat refine WN ?_)
    (repeat refine WF ?_); refine AWP.region_run (by kernel_rfl) (by kernel_rfl) ?_; (repeat (first | refine RK ?_ | refine RGo.nil (by kernel_rfl) ?_))
    (refine AWP.ret ?_; (repeat (first | refine inB_r ?_ | refine andThen_r ?_)); refine retQ_r ?_)
    have hI : (w.items.map (itemA false)).take bi ++ itemA false ⟨⟨n, g⟩, cs⟩ :: (w.items.map (itemA false)).drop bi = (insI w.items ⟨⟨n, g⟩, cs⟩).map (itemA false) := by
      rw [insI_at, hbi, List.map_append, List.map_cons, List.map_take, List.map_drop]
    rw [hI]
    subst hr
    subst hL
    have hlI : ((insI w.items ⟨⟨n, g⟩, cs⟩).map (itemA false)).length = ((insI w.items ⟨⟨n, g⟩, cs⟩).map (itemA false)).length := rfl
    exact Ends.cv [.agg [kindsA false false w.kinds, .sl G 0 m, .sl Y 0 ((insI w.items ⟨⟨n, g⟩, cs⟩).map (itemA false)).length], entA ⟨n, g⟩, iA 0] [wdS ⟨w.kinds, gens, insI w.items ⟨⟨n, g⟩, cs⟩⟩, entA ⟨n, g⟩, iA 0] (.cons (.agg (.cons .same (.cons (.sl (p := 3) (by exact At.f) hm) (.cons (.sl (p := 1) (by exact At.f) rfl) .nil)))) (.cons (.agg (.cons .same (.cons .same .nil))) (.cons (.cell .same) .nil)))
end Go.Proofs.Ytcnfcilfacgnnaa

namespace Go.Proofs.Ytcnfcilfacgnnaa
set_option linter.unusedVariables false
end Go.Proofs.Ytcnfcilfacgnnaa

namespace Go.Proofs.Ytcnfcilfacgnnaa
set_option linter.unusedVariables false
theorem compsE_ps (ks : List Kind) (l : List Int) (hk : KindsOK ks) : PS Try.prog 19 [kindsA false false ks, intsA false l] (compsA false false (genComps ks l).1) := by
  refine Spec.of (nt := 10) (res := [.tmp 4]) Try.func19 rfl (by kernel_rfl) rfl rfl rfl fun Sf => ?_
  (repeat refine WF ?_); refine AWP.region ?_; (repeat (first | refine WO ?_ | refine All.i fun X => ?_ | refine AllY.i fun Y => ?_)); refine AOps.nil ?_; (repeat refine WN ?_)
  (repeat refine WF ?_); refine AWP.region ?_; (repeat (first | (refine AOps.gN ?_; first | (refine AOps.g_callf ?_; first | refine AOps.o2 (h := (comps_po G ks l hk)) (k := ?_))) | refine WO ?_ | refine All.i fun G => ?_ | refine AllY.i fun Y => ?_)); refine AOps.nil ?_; (repeat refine WN ?_)
  (refine AWP.ret ?_; (repeat (first | refine inB_r ?_ | refine andThen_r ?_)); refine retQ_r ?_)
  exact Ends.cv [compsA false false (genComps ks l).1] [compsA false false (genComps ks l).1] (.cons (.cell .same) .nil)
end Go.Proofs.Ytcnfcilfacgnnaa

namespace Go.Proofs.Ytcnfcilfacgnnaa
set_option linter.unusedVariables false
end Go.Proofs.Ytcnfcilfacgnnaa

namespace Go.Proofs.Ytcnfcilfacgnnaa
set_option linter.unusedVariables false
theorem sameCompsT1_ps (x y : Comp) (hl : x.vals.length ≤ 1099511627776) : PS Try.prog 62 [compA false x, compA false y] (bA (decide (x = y))) := by
  have heq := equalI_ps x.vals y.vals hl
  rw [← compEq]
  refine Spec.of (nt := 17) (res := [.tmp 4]) Try.func62 rfl (by kernel_rfl) rfl rfl rfl fun Sf => ?_
  (repeat refine WF ?_); refine AWP.region ?_; (repeat (first | (refine AOps.gN ?_; first | (refine AOps.g_box ?_; refine AOps.goB ?_)) | refine WO ?_ | refine All.i fun X => ?_ | refine AllY.i fun Y => ?_)); refine AOps.nil ?_; (repeat refine WN ?_)
  rcases Bool.eq_false_or_eq_true (decide (x.kind = y.kind)) with g | g
  · rw [g]
    (repeat (first | (refine AOps.gN ?_; first | (refine AOps.g_callf ?_; first | refine AOps.c2 (h := (heq ..)) (k := ?_))) | refine WK ?_ | refine All.i fun X => ?_ | refine AllY.i fun Y => ?_))
    (refine AWP.ret ?_; (repeat (first | refine inB_r ?_ | refine andThen_r ?_)); refine retQ_r ?_); refine Ends.ps ?_
    rfl
  · rw [g]
    (repeat (first | refine WK ?_ | refine All.i fun X => ?_ | refine AllY.i fun Y => ?_))
    (refine AWP.ret ?_; (repeat (first | refine inB_r ?_ | refine andThen_r ?_)); refine retQ_r ?_); refine Ends.ps ?_
    rfl
theorem sameCompsT_ps (a b : List Comp) (hl : CsL a) : PS Try.prog 26 [compsA false false a, compsA false false b] (bA (decide (a = b))) := by
  have h := equalFuncC_ps a b 62 [] (fun x y => decide (x = y)) rfl (by have := hl.1; omega) (fun x hx y _ => sameCompsT1_ps x y (hl.2 x hx))
  rw [eqF_eq fun _ _ _ _ => rfl] at h
  refine Spec.of (nt := 8) (res := [.tmp 4]) Try.func26 rfl (by kernel_rfl) rfl rfl rfl fun Sf => ?_
  (repeat (first | (refine AOps.gN ?_; first | (refine AOps.g_callf ?_; first | refine AOps.c3 (h := (h ..)) (k := ?_))) | refine WK ?_ | refine All.i fun X => ?_ | refine AllY.i fun Y => ?_))
  (refine AWP.ret ?_; (repeat (first | refine inB_r ?_ | refine andThen_r ?_)); refine retQ_r ?_); refine Ends.ps ?_
  rfl
theorem sameItemsT1_ps (x y : Item) (hl : CsL x.comps) : PS Try.prog 64 [itemA false x, itemA false y] (bA (decide (x = y))) := by
  have heq := sameCompsT_ps x.comps y.comps hl
  rw [← itemEq]
  refine Spec.of (nt := 17) (res := [.tmp 4]) Try.func64 rfl (by kernel_rfl) rfl rfl rfl fun Sf => ?_
  (repeat refine WF ?_); refine AWP.region ?_; (repeat (first | (refine AOps.gN ?_; first | (refine AOps.g_box ?_; refine AOps.goB ?_)) | refine WO ?_ | refine All.i fun X => ?_ | refine AllY.i fun Y => ?_)); refine AOps.nil ?_; (repeat refine WN ?_)
  have hE := entEql x.ent.n x.ent.gen y.ent.n y.ent.gen
  rw [show (decide (x.ent.n = y.ent.n) && decide (x.ent.gen = y.ent.gen)) = sameE x.ent y.ent from rfl] at hE
  cases hb : sameE x.ent y.ent
  · rw [hb] at hE
    (repeat (first | (refine AOps.gN ?_; first | refine AOps.p (W.eqP _ _ (by kernel_rfl) hE rfl rfl) rfl ?_) | refine WK ?_ | refine All.i fun X => ?_ | refine AllY.i fun Y => ?_))
    (refine AWP.ret ?_; (repeat (first | refine inB_r ?_ | refine andThen_r ?_)); refine retQ_r ?_); refine Ends.ps ?_
    rfl
  · rw [hb] at hE
    (repeat (first | (refine AOps.gN ?_; first | (refine AOps.g_callf ?_; first | refine AOps.c2 (h := (heq ..)) (k := ?_)) | refine AOps.p (W.eqP _ _ (by kernel_rfl) hE rfl rfl) rfl ?_) | refine WK ?_ | refine All.i fun X => ?_ | refine AllY.i fun Y => ?_))
    (refine AWP.ret ?_; (repeat (first | refine inB_r ?_ | refine andThen_r ?_)); refine retQ_r ?_); refine Ends.ps ?_
    rfl
theorem sameItemsT_ps (a b : List Item) (hl : ItL a) : PS Try.prog 27 [itemsA false false a, itemsA false false b] (bA (decide (a = b))) := by
  have h := equalFuncT_ps a b 64 [] (fun x y => decide (x = y)) rfl (by have := hl.1; omega) (fun x hx y _ => sameItemsT1_ps x y (hl.2 x hx))
  rw [eqF_eq fun _ _ _ _ => rfl] at h
  refine Spec.of (nt := 8) (res := [.tmp 4]) Try.func27 rfl (by kernel_rfl) rfl rfl rfl fun Sf => ?_
  (repeat (first | (refine AOps.gN ?_; first | (refine AOps.g_callf ?_; first | refine AOps.c3 (h := (h ..)) (k := ?_))) | refine WK ?_ | refine All.i fun X => ?_ | refine AllY.i fun Y => ?_))
  (refine AWP.ret ?_; (repeat (first | refine inB_r ?_ | refine andThen_r ?_)); refine retQ_r ?_); refine Ends.ps ?_
  rfl
end Go.Proofs.Ytcnfcilfacgnnaa

namespace Go.Proofs.Ytcnfcilfacgnnaa
set_option linter.unusedVariables false
theorem cloneT_ps (l : List Item) (hl : l.length * 40 ≤ 140737488355328) : PS Try.prog 29 [.lst false 48 3 (l.map (itemA false))] (.lst true 48 3 (l.map (itemA false))) := by
  refine Spec.of (nt := 8) (res := [.tmp 2]) Try.func29 rfl (by kernel_rfl) rfl rfl rfl fun Sf => ?_
  (repeat (first | (refine AOps.gN ?_; first | refine AOps.isNil fun b hb => ?_) | refine WK ?_ | refine All.i fun X => ?_ | refine AllY.i fun Y => ?_))
  refine AWP.cond rfl (fun hc => ?_) (fun hc => ?_)
  · rw [hb hc]
    (repeat (first | refine WK ?_ | refine All.i fun X => ?_ | refine AllY.i fun Y => ?_))
    (refine AWP.ret ?_; (repeat (first | refine inB_r ?_ | refine andThen_r ?_)); refine retQ_r ?_)
    exact ⟨[.prim (.slice none 0 0)], [.lst true 48 3 []], _, [], .cons (.tmp rfl) rfl .nil, .cons (.cell .nil) .nil, by exact Sub.f, rfl, rfl⟩
  · have hl' : (0 + (l.map (itemA false)).length) * 40 ≤ 140737488355328 := by simpa using hl
    clear hl
    (repeat (first | (refine AOps.gN ?_; first | (refine AOps.g_lit ?_; refine AOps.goL0 fun K => ?_)) | refine WK ?_ | refine All.i fun X => ?_ | refine AllY.i fun Y => ?_))
    (refine AWP.ret ?_; (repeat (first | refine inB_r ?_ | refine andThen_r ?_)); refine retQ_r ?_)
    exact ⟨[.sl Y 0 (0 + (l.map (itemA false)).length)], [.lst true 48 3 (l.map (itemA false))], _, [], .cons (.tmp rfl) rfl .nil, .cons (.cell (.sl (p := 0) .here (by simp))) .nil, by exact Sub.f, rfl, rfl⟩
end Go.Proofs.Ytcnfcilfacgnnaa

namespace Go.Proofs.Ytcnfcilfacgnnaa
set_option linter.unusedVariables false
open Go.RowKit
def baseM (w : World) : Mem := ⟨fun _ => none, fun _ => False, w, fun b => b < w.heap.size⟩
theorem baseM_good (w : World) : Good (baseM w) (baseM w) 0 [] [] :=
  ⟨fun z hz => (by cases hz), .nil, fun b hb => (by cases hb), fun b h => h, .nil, fun x hx => (by cases hx), fun x h => h.elim, .refl _, rfl, rfl, rfl, Nat.le_refl _⟩
theorem Good.bel {w : World} {m' : Mem} {N : Nat} {Z : Zs} {br : List Nat} (G : Good (baseM w) m' N Z br) : Below w.heap.size w m'.w :=
  ⟨G.os, G.tape, G.output, G.size, fun k hk => (G.le.F k hk).2⟩
theorem PS.calls_bool {P : Program} {f : FuncId} {args : List AV} {b : Bool} (h : PS P f args (bA b)) {w : World} {vals : Array Value} (hv : VTs (baseM w) args vals.toList []) :
    Calls P f vals w fun e w' => e = .returned (.bool b) ∧ Below w.heap.size w w' :=
  (h.run [] (baseM w) 0 [] vals rfl (baseM_good w) hv).mono fun e w' ⟨v, r, S', m', N', Z', br, h1, h2, h3, G, h4, h5, h6⟩ => by
    subst h1 h2 h5
    refine ⟨?_, G.bel⟩
    obtain ⟨⟨h7, _⟩, _⟩ := h4
    injection h7 with h7
    rw [h7]
theorem cells_vcs {α : Type} {m : Mem} {C : List Value → α → Prop} {sz : Nat} {f : α → AV} (hC : ∀ c x, C c x → VC m (f x) c []) : ∀ {l : List α} {xs : List Value}, Cells C sz xs l → VCs m (l.map f) xs []
  | [], _, h => ⟨h, rfl⟩
  | x :: l, _, ⟨c, ys, h1, h2, h3, h4⟩ => ⟨c, ys, [], [], h1, rfl, hC c x h3, cells_vcs hC h4⟩
theorem cell_block {w : World} {b o : Nat} {u : Value} (h : w.cell? ⟨b, o, none⟩ = some u) : ∃ arr t r, w.heap[b]? = some (.cells arr t r) ∧ arr[o]? = some u := by
  unfold World.cell? at h
  cases hb : w.heap[b]? with
  | none => simp only [hb] at h; cases h
  | some blk =>
    cases blk with
    | cells c t r => simp only [hb] at h; exact ⟨c, t, r, rfl, by simpa using h⟩
    | _ => simp only [hb] at h; cases h
theorem sl_vc {α : Type} {w : World} {C : World → Reg → List Value → α → Prop} {sz : Nat} {f : α → AV} {t : TypeId} {v : Value} {l : List α} (hsz : 0 < sz) (hC : ∀ c x, C w (Lt w) c x → VC (baseM w) (f x) c []) (hw : ∀ x, (f x).width = sz) (h : Sl w (Lt w) sz C v l) : VC (baseM w) (.lst false t sz (l.map f)) [v] [] := by
  obtain ⟨xs, ⟨h1, A, cap, rfl, hn, hr⟩, hc⟩ := h
  refine ⟨rfl, A, cap, by simp, by simpa using hn, fun e he => by obtain ⟨x, _, rfl⟩ := List.mem_map.1 he; exact hw x, fun h0 => ?_⟩
  have h0 : 0 < l.length := by simpa using h0
  obtain ⟨b, off, rfl, hb, hcell⟩ := hr h0
  have hx : 0 < xs.length := by rw [h1]; exact Nat.mul_pos h0 hsz
  obtain ⟨arr, t', r, h2, h3⟩ := cell_block (hcell 0 xs[0] (by simp))
  refine ⟨b, off, arr, t', r, rfl, hb, h2, ?_⟩
  have e : (arr.toList.drop off).take ((l.map f).length * sz) = xs := by
    apply List.ext_getElem?
    intro j
    rw [List.getElem?_take]
    split
    · rename_i hj
      have hj : j < xs.length := by rw [h1]; simpa using hj
      obtain ⟨arr2, t2, r2, h4, h5⟩ := cell_block (hcell j xs[j] (by simp))
      rw [h2] at h4
      injection h4 with h4
      injection h4 with h4
      subst h4
      rw [List.getElem?_drop, List.getElem?_eq_getElem hj]
      simpa using h5
    · rename_i hj
      rw [List.getElem?_eq_none]
      rw [h1]; simpa using hj
  rw [e]
  exact cells_vcs hC hc
theorem ints_vc {w : World} {v : Value} {l : List Int} (h : Ints w (Lt w) v l) : VC (baseM w) (intsA false l) [v] [] :=
  sl_vc (f := iA) (by decide) (fun c x hc => ⟨⟨hc, rfl⟩, rfl⟩) (fun _ => rfl) h
theorem vts_nil {m : Mem} : VTs m [] [] [] := ⟨rfl, rfl⟩
theorem vts_ints {w : World} {v : Value} {z : List Int} {l : List AV} {us : List Value} (h : Ints w (Lt w) v z) (k : VTs (baseM w) l us []) : VTs (baseM w) (intsA false z :: l) (v :: us) [] := (VTs_cons rfl).2 ⟨_, _, [], [], rfl, rfl, ints_vc h, k⟩
end Go.Proofs.Ytcnfcilfacgnnaa

namespace Go.Proofs.Ytcnfcilfacgnnaa
set_option linter.unusedVariables false
open Go.RowKit
set_option maxRecDepth 8000 in
set_option maxHeartbeats 2000000 in
theorem worldBorn_ps (l m : List Int) (hl : l.length * 8 ≤ 140737488351232) (hm : m.length * 8 ≤ 140737488351232) : PS Try.prog 6 [intsA false l, intsA false m] (bA true) := by
  have hwp := world_ps l
  have hok := genWorld_ok l
  obtain ⟨hk0, hk4⟩ := genWorld_ks l
  have hko : KindsOK (genWorld l).kinds := genKinds_rng l
  have hkg : KsGood (genWorld l).kinds := genKinds_good l
  have hfr := genWorld_free l
  obtain ⟨w, hw⟩ : ∃ w, genWorld l = w := ⟨_, rfl⟩
  rw [hw] at hwp hok hk0 hk4 hko hkg hfr
  clear hw
  have hL := hok.wl
  have hIl : w.items.length ≤ 256 := by have := hok.il; have := hok.gl; omega
  have hcp := compsE_ps w.kinds m hko
  have hch := genComps_held hkg m
  obtain ⟨c, hc⟩ : ∃ c, (genComps w.kinds m).1 = c := ⟨_, rfl⟩
  rw [hc] at hcp hch
  clear hc
  obtain ⟨hc16, hc8⟩ := held_small hok.ks hch
  obtain ⟨v, n, g, i, b1, b2, b3, b4, b5, b6, b7, b8, b9, b10, b11, b12⟩ := born_law hok hfr hch
  have s1 := spawn_ps w c hL (by omega) (by omega)
  rw [b1] at s1
  have f1 := find_ps' w ⟨n, g⟩ (by omega)
  have f2 := find_ps' v ⟨n, g⟩ (by omega)
  rw [b8] at f2
  have k1 := check_ps' v b4.wl.gens b4.wl.items.1 (fun it hit => (b4.wl.items.2 it hit).1)
  rw [(wdErr_iff v).2 b4] at k1
  have k2 := kill_ps v ⟨n, g⟩ b4.wl
  rw [b12] at k2
  have sc := sameCompsT_ps c c ⟨by omega, fun x hx => by have := hc8 x hx; omega⟩
  rw [decide_eq_true rfl] at sc
  have si := sameItemsT_ps w.items w.items hL.items
  rw [decide_eq_true rfl] at si
  have hwm : (w.items.map (itemA false)).length = w.items.length := List.length_map _
  have hvm : (v.items.map (itemA false)).length = v.items.length := List.length_map _
  have hwg : (w.gens.map iA).length = w.gens.length := List.length_map _
  have hgl := hok.gl
  have hil : i < v.items.length := (List.getElem?_eq_some_iff.1 b9).1
  have hat : (v.items.map (itemA false))[i]? = some (itemA false ⟨⟨n, g⟩, c⟩) := by rw [List.getElem?_map, b9]; rfl
  have hfn : decide (findE w.items ⟨n, g⟩ ≥ 0) = false := decide_eq_false (by omega)
  have hn0 : decide ((n : Int) < 0) = false := decide_eq_false (by omega)
  have hn1 : decide ((n : Int) > (w.gens.map iA).length) = false := decide_eq_false (by omega)
  have hi0 : decide ((i : Int) < 0) = false := decide_eq_false (by omega)
  have hi1 : decide ((i : Int) ≥ (v.items.map (itemA false)).length) = false := decide_eq_false (by omega)
  refine Spec.of (nt := 130) (res := [.tmp 4]) Try.func6 rfl (by kernel_rfl) rfl rfl rfl fun Sf => ?_
  (repeat refine WF ?_); refine AWP.region ?_; (repeat (first | refine WO ?_ | refine All.i fun X => ?_ | refine AllY.i fun Y => ?_)); refine AOps.nil ?_; (repeat refine WN ?_)
  (repeat refine WF ?_); refine AWP.region ?_; (repeat (first | (refine AOps.gN ?_; first | (refine AOps.g_callf ?_; first | refine AOps.c1 (h := (hwp ..)) (k := ?_))) | refine WO ?_ | refine All.i fun V => ?_ | refine AllY.i fun Y => ?_)); refine AOps.nil ?_; (repeat refine WN ?_)
  (repeat refine WF ?_); refine AWP.region ?_; (repeat (first | (refine AOps.gN ?_; first | (refine AOps.g_callf ?_; first | refine AOps.c2 (h := (hcp ..)) (k := ?_))) | refine WO ?_ | refine All.i fun X => ?_ | refine AllY.i fun Y => ?_)); refine AOps.nil ?_; (repeat refine WN ?_)
  (repeat (first | (refine AOps.gN ?_; first | (refine AOps.g_callf ?_; first | refine AOps.c0 (h := (begun_ps ..)) (k := ?_))) | refine WK ?_ | refine All.i fun X => ?_ | refine AllY.i fun Y => ?_))
  refine AWP.cond_f rfl rfl ?_
  (repeat refine WF ?_); refine AWP.region ?_; (repeat (first | (refine AOps.gN ?_; first | (refine AOps.g_callf ?_; first | refine AOps.c2 (h := (s1 ..)) (k := ?_))) | refine WO ?_ | refine All.i fun A2 => ?_ | refine AllY.i fun Y => ?_)); refine AOps.nil ?_; (repeat refine WN ?_)
  (repeat refine WF ?_); refine AWP.region ?_; (repeat (first | (refine AOps.gN ?_; first | (refine AOps.g_callf ?_; first | refine AOps.c2 (h := (f1 ..)) (k := ?_) | refine AOps.c1 (h := (k1 ..)) (k := ?_))) | refine WO ?_ | refine All.i fun X => ?_ | refine AllY.i fun Y => ?_)); refine AOps.nil ?_; (repeat refine WN ?_)
  refine AWP.cond_f rfl rfl ?_
  (repeat refine WF ?_); refine AWP.region ?_; (repeat (first | (refine AOps.gN ?_; first | (refine AOps.g_callf ?_; first | refine AOps.c2 (h := (f2 ..)) (k := ?_))) | refine WO ?_ | refine All.i fun X => ?_ | refine AllY.i fun Y => ?_)); refine AOps.nil ?_; (repeat refine WN ?_)
  refine AWP.rs fun Y => AWP.rs fun X => ?_
  have hcl := cloneT_ps v.items (by omega)
  have hdel := (deleteT_sp X (v.items.map (itemA false)).length i (v.items.map (itemA false)) rfl (by omega) (by omega) (items_free v.items) (items_wid v.items)).used
  rw [← map_erase, b10] at hdel
  have si2 : Spec Try.prog 27 [.sl Y 0 (w.items.map (itemA false)).length, itemsA false false w.items] [(Y, .row 48 3 (w.items.map (itemA false)))] fun r' S' => r' = bA true ∧ S' = [(Y, .row 48 3 (w.items.map (itemA false)))] :=
    PS.lend si rfl (.cons (Ld.row .here rfl) (.cons .fz .nil))
  (repeat refine WF ?_); refine AWP.region_run (by kernel_rfl) (by kernel_rfl) ?_; (repeat (first | (refine RGo.gN ?_; first | refine RGo.c2 (h := sc) (k := ?_) | refine RGo.t1 (h := hcl) (k := ?_) | refine RGo.go (h := W.addE ((i : Int) + 1) rfl (by omega) rfl rfl) (k := ?_) | refine RGo.z3 (h := hdel) (hT := .ls (Y := Y)) (k := ?_) | refine RGo.z2 (h := si2) (hT := .fz) (k := ?_)) | (refine RGo.gQ ?_; first | refine RGo.c2 (h := sc) (k := ?_) | refine RGo.t1 (h := hcl) (k := ?_) | refine RGo.go (h := W.addE ((i : Int) + 1) rfl (by omega) rfl rfl) (k := ?_) | refine RGo.z3 (h := hdel) (hT := .ls (Y := Y)) (k := ?_) | refine RGo.z2 (h := si2) (hT := .fz) (k := ?_)) | refine RK ?_ | refine RGo.nil (by kernel_rfl) ?_))
  (repeat refine WF ?_)
  refine AWP.cond_f rfl rfl ?_
  (repeat refine WF ?_); refine AWP.region ?_; (repeat (first | (refine AOps.gN ?_; first | (refine AOps.g_callf ?_; first | refine AOps.c2 (h := (k2 ..)) (k := ?_))) | refine WO ?_ | refine All.i fun B1 => ?_ | refine AllY.i fun Y => ?_)); refine AOps.nil ?_; (repeat refine WN ?_)
  have hgi := cloneI_ps w.gens (by omega)
  rw [b6] at b7 b12
  obtain ⟨g1, g2, g3, g4, g5, g6⟩ := growG_at b3
  (repeat (first | (refine AOps.gN ?_; first | (refine AOps.g_callf ?_; first | refine AOps.t1 (h := hgi) fun G => ?_)) | refine WK ?_ | refine All.i fun X => ?_ | refine AllY.i fun Y => ?_))
  rename_i G
  refine AWP.joinS (fun b : Nat × Nat × List AV => b.2.1 = b.2.2.length ∧ b.2.2 = (growG w.gens n).map iA) (fun b => ⟨[(5, .ptr V 0 0), (8, .ptr A2 0 0), (11, .ptr B1 0 0), (12, iA 0), (13, .sl b.1 0 b.2.1)], (b.1, .row 3 1 b.2.2) :: (B1, .row 26 3 [wdA false ⟨w.kinds, v.gens.set n (v.gens.getD n 0 + 1), w.items⟩]) :: (A2, .row 30 2 [entA ⟨n, g⟩]) :: (V, .row 26 3 [wdA false w]) :: Sf⟩) ?_ ?_
  · by_cases hc : n = w.gens.length
    · refine AWP.cond_t rfl (decide_eq_true (show ((n : Int) = ((w.gens.map iA).length : Nat)) by omega)) ?_
      have hb1 : (w.gens.map iA).length + 1 ≤ 1099511627776 := by omega
      (repeat (first | (refine AOps.gN ?_; first | (refine AOps.g_lit ?_; refine AOps.goL (iA 0) ?_)) | refine WK ?_ | refine All.i fun X => ?_ | refine AllY.i fun Y => ?_))
      exact jn (Y, (w.gens.map iA).length + 1, w.gens.map iA ++ [iA 0]) ⟨by simp, by unfold growG; rw [if_pos hc, List.map_append]; rfl⟩
    · refine AWP.cond_f rfl (decide_eq_false (show ¬ ((n : Int) = ((w.gens.map iA).length : Nat)) by omega)) ?_
      (repeat (first | refine WK ?_ | refine All.i fun X => ?_ | refine AllY.i fun Y => ?_))
      exact jn (G, (w.gens.map iA).length, w.gens.map iA) ⟨rfl, by unfold growG; rw [if_neg hc]⟩
  · rintro ⟨G, q, L⟩ ⟨hq, hL2⟩
    dsimp only at hq hL2 ⊢
    rw [← b6] at hL2 g1 g2 g5
    obtain ⟨gg, hgg⟩ : ∃ gg, v.gens.getD n 0 = gg := ⟨_, rfl⟩
    rw [hgg] at g2 ⊢
    have hggr := b4.gs gg (List.mem_of_getElem? g2)
    have hat3 : L[n]? = some (iA gg) := by rw [hL2, List.getElem?_map, g2]; rfl
    have hnq : n < q := by rw [hq, hL2, List.length_map]; exact g1
    (repeat refine WF ?_); refine AWP.region ?_; (repeat (first | (refine AOps.gN ?_; first | refine AOps.p (W.addE (gg + 1) rfl (by omega) rfl rfl) rfl ?_) | refine WO ?_ | refine All.i fun X => ?_ | refine AllY.i fun Y => ?_)); refine AOps.nil ?_; (repeat refine WN ?_)
    have hset : L.set n (iA (gg + 1)) = (v.gens.set n (gg + 1)).map iA := by rw [hL2, List.map_set]
    rw [hset]
    have hql : q = ((v.gens.set n (gg + 1)).map iA).length := by rw [hq, hL2]; simp
    have he := equalI_ps (v.gens.set n (gg + 1)) (v.gens.set n (gg + 1)) (by have := b4.gl; simp; omega)
    rw [decide_eq_true rfl] at he
    refine AWP.iceL 13 ((v.gens.set n (gg + 1)).map iA) Frzs.h ?_
    (repeat refine WF ?_); refine AWP.region ?_; (repeat (first | (refine AOps.gN ?_; first | (refine AOps.g_callf ?_; first | refine AOps.c2 (h := (si ..)) (k := ?_) | refine AOps.c2 (h := (he ..)) (k := ?_))) | refine WO ?_ | refine All.i fun X => ?_ | refine AllY.i fun Y => ?_)); refine AOps.nil ?_; (repeat refine WN ?_)
    (refine AWP.ret ?_; (repeat (first | refine inB_r ?_ | refine andThen_r ?_)); refine retQ_r ?_); refine Ends.ps ?_
    rfl
theorem worldBorn_calls (z0 : List Int) (A0 : Option Addr) (n0 cap0 : Nat) (z1 : List Int) (A1 : Option Addr) (n1 cap1 : Nat) (w : World) (h0 : Ints w (Lt w) (.slice A0 n0 cap0) z0) (hlen0 : z0.length * 8 ≤ 140737488351232) (h1 : Ints w (Lt w) (.slice A1 n1 cap1) z1) (hlen1 : z1.length * 8 ≤ 140737488351232) :
    Calls Try.prog 6 #[.slice A0 n0 cap0, .slice A1 n1 cap1] w fun e w' => e = .returned (.bool true) ∧ Below w.heap.size w w' :=
  (worldBorn_ps z0 z1 hlen0 hlen1).calls_bool (vts_ints h0 (vts_ints h1 (vts_nil)))
end Go.Proofs.Ytcnfcilfacgnnaa
