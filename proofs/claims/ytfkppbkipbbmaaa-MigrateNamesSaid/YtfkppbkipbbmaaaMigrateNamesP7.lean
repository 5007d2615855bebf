/-
  Part 7 of the texts under the law MigrateNames: the layer of abstract values, walks and plain laws. Conditions: those that each theorem names.
-/
import Derived.Below
import Derived.Test.YtfkppbkipbbmaaaMigrateNamesP6
namespace Go.Proofs.Ytfkppbkipbbmaaa
set_option linter.unusedVariables false
theorem sameCompsT1_ps (x y : Comp) (hl : x.vals.length ≤ 1099511627776) : PS Try.prog 96 [compA false x, compA false y] (bA (decide (x = y))) := by
  have heq := equalI_ps x.vals y.vals hl
  rw [← compEq]
  refine Spec.of (nt := 17) (res := [.tmp 4]) Try.func96 rfl (by kernel_rfl) rfl rfl rfl fun Sf => ?_
  (repeat refine WF ?_); refine AWP.region ?_; (repeat (first | (refine AOps.gN ?_; first | (refine AOps.g_box ?_; refine AOps.goB ?_)) | refine WO ?_ | refine All.i fun X => ?_ | refine AllY.i fun Y => ?_)); refine AOps.nil ?_; (repeat refine WN ?_)
  rcases Bool.eq_false_or_eq_true (decide (x.kind = y.kind)) with g | g
  · rw [g]
    (repeat (first | (refine AOps.gN ?_; first | (refine AOps.g_callf ?_; first | refine AOps.c2 (h := (heq ..)) (k := ?_))) | refine WK ?_ | refine All.i fun X => ?_ | refine AllY.i fun Y => ?_))
    (refine AWP.ret ?_; (repeat (first | refine inB_r ?_ | refine andThen_r ?_)); refine retQ_r ?_); refine Ends.ps ?_
    rfl
  · rw [g]
    (repeat (first | refine WK ?_ | refine All.i fun X => ?_ | refine AllY.i fun Y => ?_))
    (refine AWP.ret ?_; (repeat (first | refine inB_r ?_ | refine andThen_r ?_)); refine retQ_r ?_); refine Ends.ps ?_
    rfl
theorem sameCompsT_ps (a b : List Comp) (hl : CsL a) : PS Try.prog 58 [compsA false false a, compsA false false b] (bA (decide (a = b))) := by
  have h := equalFuncC_ps a b 96 [] (fun x y => decide (x = y)) rfl (by have := hl.1; omega) (fun x hx y _ => sameCompsT1_ps x y (hl.2 x hx))
  rw [eqF_eq fun _ _ _ _ => rfl] at h
  refine Spec.of (nt := 8) (res := [.tmp 4]) Try.func58 rfl (by kernel_rfl) rfl rfl rfl fun Sf => ?_
  (repeat (first | (refine AOps.gN ?_; first | (refine AOps.g_callf ?_; first | refine AOps.c3 (h := (h ..)) (k := ?_))) | refine WK ?_ | refine All.i fun X => ?_ | refine AllY.i fun Y => ?_))
  (refine AWP.ret ?_; (repeat (first | refine inB_r ?_ | refine andThen_r ?_)); refine retQ_r ?_); refine Ends.ps ?_
  rfl
theorem sameItemsT1_ps (x y : Item) (hl : CsL x.comps) : PS Try.prog 57 [itemA false x, itemA false y] (bA (decide (x = y))) := by
  have heq := sameCompsT_ps x.comps y.comps hl
  rw [← itemEq]
  refine Spec.of (nt := 17) (res := [.tmp 4]) Try.func57 rfl (by kernel_rfl) rfl rfl rfl fun Sf => ?_
  (repeat refine WF ?_); refine AWP.region ?_; (repeat (first | (refine AOps.gN ?_; first | (refine AOps.g_box ?_; refine AOps.goB ?_)) | refine WO ?_ | refine All.i fun X => ?_ | refine AllY.i fun Y => ?_)); refine AOps.nil ?_; (repeat refine WN ?_)
  have hE := entEql x.ent.n x.ent.gen y.ent.n y.ent.gen
  rw [show (decide (x.ent.n = y.ent.n) && decide (x.ent.gen = y.ent.gen)) = sameE x.ent y.ent from rfl] at hE
  cases hb : sameE x.ent y.ent
  · rw [hb] at hE
    (repeat (first | (refine AOps.gN ?_; first | refine AOps.p (W.eqP _ _ (by kernel_rfl) hE rfl rfl) rfl ?_) | refine WK ?_ | refine All.i fun X => ?_ | refine AllY.i fun Y => ?_))
    (refine AWP.ret ?_; (repeat (first | refine inB_r ?_ | refine andThen_r ?_)); refine retQ_r ?_); refine Ends.ps ?_
    rfl
  · rw [hb] at hE
    (repeat (first | (refine AOps.gN ?_; first | (refine AOps.g_callf ?_; first | refine AOps.c2 (h := (heq ..)) (k := ?_)) | refine AOps.p (W.eqP _ _ (by kernel_rfl) hE rfl rfl) rfl ?_) | refine WK ?_ | refine All.i fun X => ?_ | refine AllY.i fun Y => ?_))
    (refine AWP.ret ?_; (repeat (first | refine inB_r ?_ | refine andThen_r ?_)); refine retQ_r ?_); refine Ends.ps ?_
    rfl
theorem sameItemsT_ps (a b : List Item) (hl : ItL a) : PS Try.prog 19 [itemsA false false a, itemsA false false b] (bA (decide (a = b))) := by
  have h := equalFuncT_ps a b 57 [] (fun x y => decide (x = y)) rfl (by have := hl.1; omega) (fun x hx y _ => sameItemsT1_ps x y (hl.2 x hx))
  rw [eqF_eq fun _ _ _ _ => rfl] at h
  refine Spec.of (nt := 8) (res := [.tmp 4]) Try.func19 rfl (by kernel_rfl) rfl rfl rfl fun Sf => ?_
  (repeat (first | (refine AOps.gN ?_; first | (refine AOps.g_callf ?_; first | refine AOps.c3 (h := (h ..)) (k := ?_))) | refine WK ?_ | refine All.i fun X => ?_ | refine AllY.i fun Y => ?_))
  (refine AWP.ret ?_; (repeat (first | refine inB_r ?_ | refine andThen_r ?_)); refine retQ_r ?_); refine Ends.ps ?_
  rfl
theorem equalF_ps (a b : List Field) (hl : a.length ≤ 1099511627776) : PS Try.prog 64 [fieldsA false a, fieldsA false b] (bA (decide (a = b))) := by
  refine Spec.of (nt := 26) (res := [.tmp 4]) Try.func64 rfl (by kernel_rfl) rfl rfl rfl fun Sf => ?_
  (repeat (first | refine WK ?_ | refine All.i fun X => ?_ | refine AllY.i fun Y => ?_))
  refine AWP.cond rfl (fun hb => ?_) (fun hb => ?_)
  · have hb : a.length ≠ b.length := by simp at hb; omega
    (repeat (first | refine WK ?_ | refine All.i fun X => ?_ | refine AllY.i fun Y => ?_))
    (refine AWP.ret ?_; (repeat (first | refine inB_r ?_ | refine andThen_r ?_)); refine retQ_r ?_); refine Ends.ps ?_
    rw [decide_eq_false fun e => hb (by rw [e])]
  · have hb : a.length = b.length := by simp at hb; omega
    (repeat (first | refine WK ?_ | refine All.i fun X => ?_ | refine AllY.i fun Y => ?_))
    refine AWP.lp (fun i : Nat => ⟨[(0, fieldsA false a), (1, fieldsA false b), (12, iA (a.map fieldA).length), (13, iA i)], Sf⟩) (fun i => i ≤ a.length ∧ ∀ j (h : j < a.length), j < i → a[j] = b[j]'(by omega)) (fun i => a.length - i) 0 ⟨Nat.zero_le _, fun j h hj => absurd hj (by omega)⟩ ?_
    rintro i ⟨hi, he⟩
    (repeat (first | refine WK ?_ | refine All.i fun X => ?_ | refine AllY.i fun Y => ?_))
    refine AWP.cond rfl (fun hc => ?_) (fun hc => ?_)
    · have h : i < a.length := by simpa using hc
      have h' : i < b.length := by omega
      obtain ⟨f, hf⟩ : ∃ f, a[i] = f := ⟨_, rfl⟩
      obtain ⟨g, hg⟩ : ∃ g, b[i] = g := ⟨_, rfl⟩
      have haf : (a.map fieldA)[i]? = some (fieldA f) := by rw [List.getElem?_map, List.getElem?_eq_getElem h, hf]; rfl
      have hag : (b.map fieldA)[i]? = some (fieldA g) := by rw [List.getElem?_map, List.getElem?_eq_getElem h', hg]; rfl
      (repeat (first | refine WK ?_ | refine All.i fun X => ?_ | refine AllY.i fun Y => ?_))
      (repeat refine WF ?_); refine AWP.region_run (by kernel_rfl) (by kernel_rfl) ?_; (repeat (first | (refine RGo.gN ?_; first | refine RGo.p (W.neP _ _ (by kernel_rfl) (fieldNeq f g) rfl rfl) rfl ?_) | (refine RGo.gQ ?_; first | refine RGo.p (W.neP _ _ (by kernel_rfl) (fieldNeq f g) rfl rfl) rfl ?_) | refine RK ?_ | refine RGo.nil (by kernel_rfl) ?_))
      (repeat (first | refine WK ?_ | refine All.i fun X => ?_ | refine AllY.i fun Y => ?_))
      refine AWP.cond rfl (fun hd => ?_) (fun hd => ?_)
      · have hd : f ≠ g := by simpa using hd
        (repeat (first | refine WK ?_ | refine All.i fun X => ?_ | refine AllY.i fun Y => ?_))
        (refine AWP.ret ?_; (repeat (first | refine inB_r ?_ | refine andThen_r ?_)); refine retQ_r ?_); refine Ends.ps ?_
        rw [decide_eq_false fun e => hd (by subst e; rw [← hf, ← hg])]
      · have hd : f = g := by simpa using hd
        (repeat (first | refine WK ?_ | refine All.i fun X => ?_ | refine AllY.i fun Y => ?_))
        refine lp_next (i + 1) ⟨h, fun j h1 h2 => ?_⟩
        by_cases e : j = i
        · subst e; rw [hf, hg, hd]
        · exact he j h1 (by omega)
    · have h : ¬ i < a.length := by simpa using hc
      (repeat (first | refine WK ?_ | refine All.i fun X => ?_ | refine AllY.i fun Y => ?_))
      (refine AWP.ret ?_; (repeat (first | refine inB_r ?_ | refine andThen_r ?_)); refine retQ_r ?_); refine Ends.ps ?_
      rw [decide_eq_true (List.ext_getElem hb fun j h1 h2 => he j h1 (by omega))]
theorem kindEq (x y : Kind) : (decide (x.name = y.name) && decide (x.fields = y.fields)) = decide (x = y) := by
  obtain ⟨k, v⟩ := x
  obtain ⟨k', v'⟩ := y
  rw [Bool.eq_iff_iff]
  simp
theorem sameKindsT1_ps (x y : Kind) (hl : x.fields.length ≤ 1099511627776) : PS Try.prog 63 [kindA false x, kindA false y] (bA (decide (x = y))) := by
  have heq := equalF_ps x.fields y.fields hl
  rw [← kindEq]
  refine Spec.of (nt := 17) (res := [.tmp 4]) Try.func63 rfl (by kernel_rfl) rfl rfl rfl fun Sf => ?_
  (repeat refine WF ?_); refine AWP.region ?_; (repeat (first | (refine AOps.gN ?_; first | (refine AOps.g_box ?_; refine AOps.goB ?_)) | refine WO ?_ | refine All.i fun X => ?_ | refine AllY.i fun Y => ?_)); refine AOps.nil ?_; (repeat refine WN ?_)
  rcases Bool.eq_false_or_eq_true (decide (x.name = y.name)) with g | g
  · rw [g]
    (repeat (first | (refine AOps.gN ?_; first | (refine AOps.g_callf ?_; first | refine AOps.c2 (h := (heq ..)) (k := ?_))) | refine WK ?_ | refine All.i fun X => ?_ | refine AllY.i fun Y => ?_))
    (refine AWP.ret ?_; (repeat (first | refine inB_r ?_ | refine andThen_r ?_)); refine retQ_r ?_); refine Ends.ps ?_
    rfl
  · rw [g]
    (repeat (first | refine WK ?_ | refine All.i fun X => ?_ | refine AllY.i fun Y => ?_))
    (refine AWP.ret ?_; (repeat (first | refine inB_r ?_ | refine andThen_r ?_)); refine retQ_r ?_); refine Ends.ps ?_
    rfl
theorem sameKindsT_ps (a b : List Kind) (hl : KsL a) : PS Try.prog 24 [kindsA false false a, kindsA false false b] (bA (decide (a = b))) := by
  have h := equalFuncK_ps a b 63 [] (fun x y => decide (x = y)) rfl (by have := hl.1; omega) (fun x hx y _ => sameKindsT1_ps x y (hl.2 x hx))
  rw [eqF_eq fun _ _ _ _ => rfl] at h
  refine Spec.of (nt := 8) (res := [.tmp 4]) Try.func24 rfl (by kernel_rfl) rfl rfl rfl fun Sf => ?_
  (repeat (first | (refine AOps.gN ?_; first | (refine AOps.g_callf ?_; first | refine AOps.c3 (h := (h ..)) (k := ?_))) | refine WK ?_ | refine All.i fun X => ?_ | refine AllY.i fun Y => ?_))
  (refine AWP.ret ?_; (repeat (first | refine inB_r ?_ | refine andThen_r ?_)); refine retQ_r ?_); refine Ends.ps ?_
  rfl
set_option maxRecDepth 4000 in
theorem sameT_ps (a b : Wd) (hl : WdL a) : PS Try.prog 23 [wdA false a, wdA false b] (bA (decide (a = b))) := by
  have h1 := sameKindsT_ps a.kinds b.kinds hl.ks
  have h2 := equalI_ps a.gens b.gens hl.gens
  have h3 := sameItemsT_ps a.items b.items hl.items
  rw [← wdEq]
  refine Spec.of (nt := 24) (res := [.tmp 4]) Try.func23 rfl (by kernel_rfl) rfl rfl rfl fun Sf => ?_
  (repeat refine WF ?_); refine AWP.region ?_; (repeat (first | (refine AOps.gN ?_; first | (refine AOps.g_box ?_; refine AOps.goB ?_)) | refine WO ?_ | refine All.i fun X => ?_ | refine AllY.i fun Y => ?_)); refine AOps.nil ?_; (repeat refine WN ?_)
  obtain ⟨b1, e1⟩ : ∃ b1, decide (a.kinds = b.kinds) = b1 := ⟨_, rfl⟩
  obtain ⟨b2, e2⟩ : ∃ b2, decide (a.gens = b.gens) = b2 := ⟨_, rfl⟩
  rw [e1] at h1 ⊢
  rw [e2] at h2 ⊢
  cases b1
  · (repeat (first | (refine AOps.gN ?_; first | (refine AOps.g_callf ?_; first | refine AOps.c2 (h := (h1 ..)) (k := ?_))) | refine WK ?_ | refine All.i fun X => ?_ | refine AllY.i fun Y => ?_))
    (refine AWP.ret ?_; (repeat (first | refine inB_r ?_ | refine andThen_r ?_)); refine retQ_r ?_); refine Ends.ps ?_
    rfl
  · cases b2
    · (repeat (first | (refine AOps.gN ?_; first | (refine AOps.g_callf ?_; first | refine AOps.c2 (h := (h1 ..)) (k := ?_) | refine AOps.c2 (h := (h2 ..)) (k := ?_))) | refine WK ?_ | refine All.i fun X => ?_ | refine AllY.i fun Y => ?_))
      (refine AWP.ret ?_; (repeat (first | refine inB_r ?_ | refine andThen_r ?_)); refine retQ_r ?_); refine Ends.ps ?_
      rfl
    · (repeat (first | (refine AOps.gN ?_; first | (refine AOps.g_callf ?_; first | refine AOps.c2 (h := (h1 ..)) (k := ?_) | refine AOps.c2 (h := (h2 ..)) (k := ?_) | refine AOps.c2 (h := (h3 ..)) (k := ?_))) | refine WK ?_ | refine All.i fun X => ?_ | refine AllY.i fun Y => ?_))
      (refine AWP.ret ?_; (repeat (first | refine inB_r ?_ | refine andThen_r ?_)); refine retQ_r ?_); refine Ends.ps ?_
      rfl
end Go.Proofs.Ytfkppbkipbbmaaa

namespace Go.Proofs.Ytfkppbkipbbmaaa
set_option linter.unusedVariables false
/-- IndexFunc over a row that is written later. -/
theorem indexFuncOM_po (X : Nat) (l : List Move) (f : FuncId) (cap : List AV) (p : Move → Bool) (hs : st1s cap = true) (hl : l.length ≤ 4611686018427387904) (hf : ∀ x ∈ l, PS Try.prog f ((moveA false) x :: cap) (bA (p x))) : PO Try.prog 50 [.sl X 0 l.length, .fn f cap] X (.row 46 10 (l.map (moveA false))) (iA (idxF l p)) (.row 46 10 (l.map (moveA false))) := by
  refine Spec.of (nt := 19) (res := [.tmp 4]) Try.func50 rfl (by kernel_rfl) rfl rfl rfl fun Sf => ?_
  (repeat (first | refine WK ?_ | refine All.i fun X => ?_ | refine AllY.i fun Y => ?_))
  refine AWP.lp (fun i : Nat => ⟨[(0, .sl X 0 l.length), (1, .fn f cap), (7, iA l.length), (8, iA i)], (X, .row 46 10 (l.map (moveA false))) :: Sf⟩) (fun i => i ≤ l.length ∧ ∀ j (h : j < l.length), j < i → p l[j] = false) (fun i => l.length - i) 0 ⟨Nat.zero_le _, fun j h hj => absurd hj (by omega)⟩ ?_
  rintro i ⟨hi, he⟩
  (repeat (first | refine WK ?_ | refine All.i fun X => ?_ | refine AllY.i fun Y => ?_))
  refine AWP.cond rfl (fun hc => ?_) (fun hc => ?_)
  · have h : i < l.length := by simpa using hc
    (repeat (first | (refine AOps.gN ?_; first | (refine AOps.g_callv ?_; first | refine AOps.k1 (h := (hf _ (List.getElem_mem h))) (k := ?_))) | refine WK ?_ | refine All.i fun X => ?_ | refine AllY.i fun Y => ?_))
    refine AWP.cond rfl (fun hd => ?_) (fun hd => ?_)
    · (repeat (first | refine WK ?_ | refine All.i fun X => ?_ | refine AllY.i fun Y => ?_))
      (refine AWP.ret ?_; (repeat (first | refine inB_r ?_ | refine andThen_r ?_)); refine retQ_r ?_); refine Ends.po ?_ ?_
      · rw [idxF_some h hd fun j hj => he j (by omega) hj]
      · rfl
    · (repeat (first | refine WK ?_ | refine All.i fun X => ?_ | refine AllY.i fun Y => ?_))
      refine lp_next (i + 1) ⟨h, fun j h1 h2 => ?_⟩
      by_cases e : j = i
      · subst e; exact hd
      · exact he j h1 (by omega)
  · have h : ¬ i < l.length := by simpa using hc
    (repeat (first | refine WK ?_ | refine All.i fun X => ?_ | refine AllY.i fun Y => ?_))
    (refine AWP.ret ?_; (repeat (first | refine inB_r ?_ | refine andThen_r ?_)); refine retQ_r ?_); refine Ends.po ?_ ?_
    · rw [idxF_none fun j hj => he j hj (by omega)]
    · rfl
theorem deleteFuncM_sp (X : Nat) (l : List Move) (f : FuncId) (cap : List AV) (p : Move → Bool) (hs : st1s cap = true) (hl : l.length ≤ 4611686018427387903) (hf : ∀ x ∈ l, PS Try.prog f ((moveA false) x :: cap) (bA (p x))) : Spec Try.prog 15 [.sl X 0 l.length, .fn f cap] [(X, .row 46 10 (l.map (moveA false)))] fun r S' => r = .lst true 46 10 ((l.filter fun x => !p x).map (moveA false)) ∧ S' = [] := by
  refine Spec.of (nt := 42) (res := [.tmp 4]) Try.func15 rfl (by kernel_rfl) rfl rfl rfl fun Sf => ?_
  have h0 := indexFuncOM_po X l f cap p hs (by omega) hf
  have hr := idxF_range l p
  obtain ⟨v, hv⟩ : ∃ v, idxF l p = v := ⟨_, rfl⟩
  rw [hv] at h0 hr
  (repeat (first | (refine AOps.gN ?_; first | (refine AOps.g_callf ?_; first | refine AOps.o2 (h := (h0 ..)) (k := ?_))) | refine WK ?_ | refine All.i fun X => ?_ | refine AllY.i fun Y => ?_))
  refine AWP.cond rfl (fun hc => ?_) (fun hc => ?_)
  · have hc : v = -1 := by simpa using hc
    have hall : (l.filter fun x => !p x) = l := by
      rw [List.filter_eq_self]
      intro x hx
      have h1 : l.findIdx? p = none := by
        unfold idxF at hv
        split at hv
        · omega
        · assumption
      rw [List.findIdx?_eq_none_iff] at h1
      simp [h1 x hx]
    rw [hall]
    (repeat (first | refine WK ?_ | refine All.i fun X => ?_ | refine AllY.i fun Y => ?_))
    (refine AWP.ret ?_; (repeat (first | refine inB_r ?_ | refine andThen_r ?_)); refine retQ_r ?_)
    exact ⟨[.sl X 0 l.length], [.lst true 46 10 (l.map (moveA false))], _, [], .cons (.tmp rfl) rfl .nil, .cons (.cell (.sl (p := 0) .here (by simp))) .nil, by exact Sub.f, rfl, rfl⟩
  · have hc : v ≠ -1 := by simpa using hc
    obtain ⟨i0, hi0⟩ : ∃ i0 : Nat, v = i0 := ⟨v.toNat, by omega⟩
    subst hi0
    have hfi : l.findIdx? p = some i0 := by
      unfold idxF at hv
      split at hv
      · rename_i i hi; rw [hi]; congr 1; omega
      · omega
    obtain ⟨hil, hpi, hmin⟩ := List.findIdx?_eq_some_iff_getElem.1 hfi
    have ht0 : (l.take (i0 + 1)).filter (fun x => !p x) = l.take i0 := by
      rw [List.take_succ_eq_append_getElem hil, List.filter_append]
      rw [show ([l[i0]].filter fun x => !p x) = [] by simp [hpi], List.append_nil, List.filter_eq_self]
      intro x hx
      obtain ⟨j, hj, rfl⟩ := List.mem_take_iff_getElem.1 hx
      have := hmin j (by omega)
      simp at this ⊢
      exact this
    (repeat (first | refine WK ?_ | refine All.i fun X => ?_ | refine AllY.i fun Y => ?_))
    refine AWP.lp3 (fun (i j : Nat) (M : List AV) => ⟨[(0, .sl X 0 l.length), (1, .fn f cap), (5, iA i), (6, iA j)], (X, .row 46 10 M) :: Sf⟩) (fun i j M => i < j ∧ j ≤ l.length ∧ ∃ K : List Move, M = K.map (moveA false) ∧ K.length = l.length ∧ K.take i = ((l.take j).filter fun x => !p x) ∧ K.drop j = l.drop j) (fun i j _ => l.length - j) i0 (i0 + 1) (l.map (moveA false)) ⟨by omega, hil, l, rfl, rfl, ht0.symm, rfl⟩ ?_
    rintro i j M ⟨hij, hj, K, rfl, hM, h1, h2⟩
    (repeat (first | refine WK ?_ | refine All.i fun X => ?_ | refine AllY.i fun Y => ?_))
    refine AWP.cond rfl (fun hd => ?_) (fun hd => ?_)
    · have h : j < l.length := by simpa using hd
      have hKj : K[j]? = some l[j] := by
        have := congrArg (fun z => z[0]?) h2
        simpa [h] using this
      have hat : (K.map (moveA false))[j]? = some ((moveA false) l[j]) := by rw [List.getElem?_map, hKj]; rfl
      have hKi : i < K.length := by omega
      obtain ⟨b, hb⟩ : ∃ b, p l[j] = b := ⟨_, rfl⟩
      have hfj := hf _ (List.getElem_mem h)
      rw [hb] at hfj
      have htk : (l.take (j + 1)).filter (fun x => !p x) = (l.take j).filter (fun x => !p x) ++ if b then [] else [l[j]] := by
        rw [List.take_succ_eq_append_getElem h, List.filter_append]
        congr 1
        cases b <;> simp [hb]
      (repeat (first | (refine AOps.gN ?_; first | (refine AOps.g_callv ?_; first | refine AOps.k1 (h := (hfj ..)) (k := ?_))) | refine WK ?_ | refine All.i fun X => ?_ | refine AllY.i fun Y => ?_))
      cases b
      · refine AWP.cond_t rfl rfl ?_
        (repeat (first | refine WK ?_ | refine All.i fun X => ?_ | refine AllY.i fun Y => ?_))
        refine lp_next3 (i + 1) (j + 1) _ ⟨by omega, h, K.set i l[j], by rw [List.map_set], by simpa using hM, ?_, ?_⟩
        · rw [htk, ← h1, List.take_add_one, List.take_set, List.set_eq_of_length_le (by rw [List.length_take]; omega), List.getElem?_set_self hKi]
          simp
        · rw [List.drop_set_of_lt (by omega), ← List.drop_drop, h2, List.drop_drop]
      · refine AWP.cond_f rfl rfl ?_
        (repeat (first | refine WK ?_ | refine All.i fun X => ?_ | refine AllY.i fun Y => ?_))
        refine lp_next3 i (j + 1) _ ⟨by omega, h, K, rfl, hM, ?_, ?_⟩
        · rw [h1, htk]; simp
        · rw [← List.drop_drop, h2, List.drop_drop]
    · have h : j = l.length := by rw [decide_eq_false_iff_not] at hd; omega
      subst h
      have h1' : K.take i = l.filter fun x => !p x := by rw [h1, List.take_length]
      have hKl : (K.map (moveA false)).length = l.length := by rw [List.length_map, hM]
      have hki : ∀ A B, (List.take (0 + i) (K.map (moveA false)) ++ A ++ B).take i = (l.filter fun x => !p x).map (moveA false) := fun A B => by
        rw [Nat.zero_add, List.append_assoc, List.take_append_of_le_length (by rw [List.length_take]; omega), List.take_take, Nat.min_self, ← List.map_take, h1']
      have hfl : i = ((l.filter fun x => !p x).map (moveA false)).length := by
        rw [← h1', List.length_map, List.length_take]; omega
      (repeat (first | (refine AOps.gN ?_; first | refine AOps.s (W.slice_lo rfl rfl (by exact At.f) rfl (by omega)) rfl ?_ | refine AOps.s (W.clear rfl (by exact At.f) (by first | exact .inl rfl | exact .inr rfl) rfl (by omega)) rfl ?_ | refine AOps.p (W.hi rfl rfl (by exact At.f) rfl (by omega)) rfl ?_) | refine WK ?_ | refine All.i fun X => ?_ | refine AllY.i fun Y => ?_))
      refine AWP.shrink (X := X) i ?_
      rw [hki]
      (refine AWP.ret ?_; (repeat (first | refine inB_r ?_ | refine andThen_r ?_)); refine retQ_r ?_)
      exact ⟨[.sl X 0 i], [.lst true 46 10 ((l.filter fun x => !p x).map (moveA false))], _, [], .cons (.tmp rfl) rfl .nil, .cons (.cell (.sl (p := 0) .here hfl)) .nil, by exact Sub.f, rfl, rfl⟩
end Go.Proofs.Ytfkppbkipbbmaaa

namespace Go.Proofs.Ytfkppbkipbbmaaa
set_option linter.unusedVariables false
theorem u8of {x : Int} (h : 0 ≤ x) (h2 : x < 256) : (UInt8.ofNat x.toNat).toNat = x.toNat := by
  simp; omega
theorem lowc_of {x : Int} : lowc (UInt8.ofNat (97 + x % 26).toNat) = true := by
  have h := u8of (x := 97 + x % 26) (by omega) (by omega)
  simp only [lowc, Bool.and_eq_true, decide_eq_true_eq, UInt8.le_iff_toNat_le, h]
  have h1 : (97 : UInt8).toNat = 97 := rfl
  have h2 : (122 : UInt8).toNat = 122 := rfl
  omega
theorem nmOf_ok (i b : Int) : nameOk (nmOf i b) = true := by
  have h1 : (nmOf i b).length = 3 := rfl
  unfold nameOk
  rw [h1]
  simp only [Bool.and_eq_true, decide_eq_true_eq, List.all_eq_true, List.mem_range]
  refine ⟨⟨by decide, by decide⟩, fun j hj => ?_⟩
  have hj : j = 0 ∨ j = 1 ∨ j = 2 := by omega
  unfold chOk
  rw [Bool.or_eq_true]
  left
  rcases hj with rfl | rfl | rfl
  · rfl
  · exact lowc_of
  · exact lowc_of
theorem Mvs.form {ks : List Kind} {ms : List Move} (h : Mvs ks ms) : ∀ m ∈ ms, ∃ k a b c i, m = moveAt k a b c i := by
  induction h with
  | nil => simp
  | @cons ks a b c i ms h0 h k ih =>
    intro m hm
    rcases List.mem_cons.1 hm with rfl | hm
    · unfold moveOf
      have h1 := Int.emod_nonneg b (show (ks.length : Int) ≠ 0 by omega)
      have h2 := Int.emod_lt_of_pos b (show (0 : Int) < ks.length by omega)
      rw [List.getElem?_eq_getElem (show (b % (ks.length : Int)).toNat < ks.length by omega)]
      exact ⟨_, _, _, _, _, rfl⟩
    · exact ih m hm
theorem kindsErr_there : ∀ (fs pre : List Kind), (∀ f ∈ fs, oneErr f = 0) → kindsErr pre fs = 0 ∨ kindsErr pre fs = 5
  | [], pre, _ => .inl rfl
  | f :: fs, pre, h => by
    rw [kindsErr, if_neg (by simp [h f (List.mem_cons_self ..)])]
    split
    · exact .inr rfl
    · exact kindsErr_there fs _ fun g hg => h g (List.mem_cons_of_mem _ hg)
theorem placeOf_err {ks : List Kind} {m : Move} (h : 0 ≤ m.act) (h6 : m.act ≤ 6) : (placeOf ks m).2.2 = 0 ∨ (placeOf ks m).2.2 = 4 := by
  unfold placeOf
  rw [if_neg (by omega)]
  split
  · exact .inl rfl
  · split
    · exact .inr rfl
    · split
      · exact .inl rfl
      · split
        · exact .inr rfl
        · split
          · exact .inr rfl
          · exact .inl rfl
theorem stepName_err {ks : List Kind} {m : Move} (hk : KsOK ks) (ha : m.act = 2) (hn : nameOk m.name = true) : (stepOf ks m).2 = 0 ∨ (stepOf ks m).2 = 4 ∨ (stepOf ks m).2 = 5 := by
  unfold stepOf
  rcases placeOf_err (ks := ks) (m := m) (by omega) (by omega) with h | h
  · rw [if_neg (by simp [h])]
    have hraw : ∀ i j : Nat, checkErr (rawOf ks m i j) = 0 ∨ checkErr (rawOf ks m i j) = 5 := fun i j => by
      unfold rawOf
      rw [if_neg (by omega), if_neg (by omega)]
      split
      · exact .inl ((checkErr_iff _).2 hk)
      · rename_i k hki
        rw [if_pos ha]
        unfold checkErr
        rw [List.length_set, if_neg (by have := hk.ln; omega)]
        refine kindsErr_there _ _ fun f hf => ?_
        rcases List.mem_or_eq_of_mem_set hf with hf | rfl
        · exact hk.one f hf
        · have := (oneErr_iff k).1 (hk.one k (List.mem_of_getElem? hki))
          exact (oneErr_iff _).2 ⟨hn, this.ln, this.fe, this.nd⟩
    split
    · rename_i h2
      rcases hraw (placeOf ks m).1.toNat (placeOf ks m).2.1.toNat with h3 | h3
      · exact absurd h3 h2
      · exact .inr (.inr h3)
    · exact .inl rfl
  · rw [if_pos (by simp [h])]
    exact .inr (.inl h)
theorem foldName_err : ∀ (ms : List Move) (ks : List Kind), KsOK ks → (∀ m ∈ ms, m.act = 2 ∧ nameOk m.name = true) → (kindsFold ks ms).2 = 0 ∨ (kindsFold ks ms).2 = 4 ∨ (kindsFold ks ms).2 = 5
  | [], ks, _, _ => .inl rfl
  | m :: ms, ks, hk, h => by
    obtain ⟨h1, h2⟩ := h m (List.mem_cons_self ..)
    have h3 := stepName_err hk h1 h2
    rw [kindsFold]
    split
    · exact h3
    · rename_i h4
      obtain ⟨_, _, _, _, hok⟩ := stepOf_cases (by simpa using h4)
      exact foldName_err ms _ hok fun x hx => h x (List.mem_cons_of_mem _ hx)
theorem compOne_name {ks : List Kind} {m : Move} {i j : Int} (c : Comp) (ha : m.act = 2) : compOne ks m i j c = some c := by
  unfold compOne
  rw [if_neg (by omega), if_neg (by omega)]
  split
  · rw [if_neg (by omega), if_neg (by omega), if_neg (by omega)]
  · rfl
theorem stepName_world {w : Wd} {m : Move} (ha : m.act = 2) : (worldStep w m).items = w.items ∧ (worldStep w m).gens = w.gens := by
  refine ⟨?_, rfl⟩
  show w.items.map _ = _
  refine (List.map_congr_left fun it hit => ?_).trans (List.map_id _)
  have : ∀ l, compsAt (stepOf w.kinds m).1 m (placeOf w.kinds m).1 (placeOf w.kinds m).2.1 l = l := fun l => by
    unfold compsAt
    rw [show compOne (stepOf w.kinds m).1 m (placeOf w.kinds m).1 (placeOf w.kinds m).2.1 = some from funext fun c => compOne_name c ha, List.filterMap_some]
  rw [this]
  rfl
theorem foldName_world : ∀ (ms : List Move) (w : Wd), (∀ m ∈ ms, m.act = 2) → (ms.foldl worldStep w).items = w.items ∧ (ms.foldl worldStep w).gens = w.gens
  | [], w, _ => ⟨rfl, rfl⟩
  | m :: ms, w, h => by
    obtain ⟨h1, h2⟩ := stepName_world (w := w) (h m (List.mem_cons_self ..))
    obtain ⟨h3, h4⟩ := foldName_world ms (worldStep w m) fun x hx => h x (List.mem_cons_of_mem _ hx)
    exact ⟨h3.trans h1, h4.trans h2⟩
/-- The moves of a list that give names to kinds. -/
def nameMs (ms : List Move) : List Move := ms.filter fun m => !(!decide (m.act = 2))
theorem nameMs_world {w : Wd} {ms : List Move} (hw : WdOK w) (h : Mvs w.kinds ms) (hl : ms.length ≤ 6) : ((worldOf w (nameMs ms)).2 = 0 ∧ (worldOf w (nameMs ms)).1.items = w.items ∧ (worldOf w (nameMs ms)).1.gens = w.gens) ∨ (worldOf w (nameMs ms)).2 = 4 ∨ (worldOf w (nameMs ms)).2 = 5 := by
  have hmem : ∀ m ∈ nameMs ms, m.act = 2 ∧ nameOk m.name = true := fun m hm => by
    obtain ⟨h1, h2⟩ := List.mem_filter.1 hm
    obtain ⟨k, a, b, c, i, rfl⟩ := h.form m h1
    exact ⟨by simpa using h2, nmOf_ok _ _⟩
  have hlen : (nameMs ms).length ≤ 6 := Nat.le_trans (List.length_filter_le ..) hl
  have hko := (checkErr_iff _).1 hw.ks
  have hkf : kindsOf w.kinds (nameMs ms) = kindsFold w.kinds (nameMs ms) := by
    unfold kindsOf
    rw [if_neg (by simp [hw.ks]), if_neg (by omega)]
  unfold worldOf
  rw [if_neg (by simp [(wdErr_iff w).2 hw]), hkf]
  rcases foldName_err _ _ hko hmem with h1 | h1 | h1
  · rw [if_neg (by simp [h1])]
    obtain ⟨h2, h3⟩ := foldName_world (nameMs ms) w fun m hm => (hmem m hm).1
    exact .inl ⟨rfl, h2, h3⟩
  · rw [if_pos (by simp [h1])]; exact .inr (.inl h1)
  · rw [if_pos (by simp [h1])]; exact .inr (.inr h1)
end Go.Proofs.Ytfkppbkipbbmaaa

namespace Go.Proofs.Ytfkppbkipbbmaaa
set_option linter.unusedVariables false
open Go.RowKit
def baseM (w : World) : Mem := ⟨fun _ => none, fun _ => False, w, fun b => b < w.heap.size⟩
theorem baseM_good (w : World) : Good (baseM w) (baseM w) 0 [] [] :=
  ⟨fun z hz => (by cases hz), .nil, fun b hb => (by cases hb), fun b h => h, .nil, fun x hx => (by cases hx), fun x h => h.elim, .refl _, rfl, rfl, rfl, Nat.le_refl _⟩
theorem Good.bel {w : World} {m' : Mem} {N : Nat} {Z : Zs} {br : List Nat} (G : Good (baseM w) m' N Z br) : Below w.heap.size w m'.w :=
  ⟨G.os, G.tape, G.output, G.size, fun k hk => (G.le.F k hk).2⟩
theorem PS.calls_bool {P : Program} {f : FuncId} {args : List AV} {b : Bool} (h : PS P f args (bA b)) {w : World} {vals : Array Value} (hv : VTs (baseM w) args vals.toList []) :
    Calls P f vals w fun e w' => e = .returned (.bool b) ∧ Below w.heap.size w w' :=
  (h.run [] (baseM w) 0 [] vals rfl (baseM_good w) hv).mono fun e w' ⟨v, r, S', m', N', Z', br, h1, h2, h3, G, h4, h5, h6⟩ => by
    subst h1 h2 h5
    refine ⟨?_, G.bel⟩
    obtain ⟨⟨h7, _⟩, _⟩ := h4
    injection h7 with h7
    rw [h7]
theorem cells_vcs {α : Type} {m : Mem} {C : List Value → α → Prop} {sz : Nat} {f : α → AV} (hC : ∀ c x, C c x → VC m (f x) c []) : ∀ {l : List α} {xs : List Value}, Cells C sz xs l → VCs m (l.map f) xs []
  | [], _, h => ⟨h, rfl⟩
  | x :: l, _, ⟨c, ys, h1, h2, h3, h4⟩ => ⟨c, ys, [], [], h1, rfl, hC c x h3, cells_vcs hC h4⟩
theorem cell_block {w : World} {b o : Nat} {u : Value} (h : w.cell? ⟨b, o, none⟩ = some u) : ∃ arr t r, w.heap[b]? = some (.cells arr t r) ∧ arr[o]? = some u := by
  unfold World.cell? at h
  cases hb : w.heap[b]? with
  | none => simp only [hb] at h; cases h
  | some blk =>
    cases blk with
    | cells c t r => simp only [hb] at h; exact ⟨c, t, r, rfl, by simpa using h⟩
    | _ => simp only [hb] at h; cases h
theorem sl_vc {α : Type} {w : World} {C : World → Reg → List Value → α → Prop} {sz : Nat} {f : α → AV} {t : TypeId} {v : Value} {l : List α} (hsz : 0 < sz) (hC : ∀ c x, C w (Lt w) c x → VC (baseM w) (f x) c []) (hw : ∀ x, (f x).width = sz) (h : Sl w (Lt w) sz C v l) : VC (baseM w) (.lst false t sz (l.map f)) [v] [] := by
  obtain ⟨xs, ⟨h1, A, cap, rfl, hn, hr⟩, hc⟩ := h
  refine ⟨rfl, A, cap, by simp, by simpa using hn, fun e he => by obtain ⟨x, _, rfl⟩ := List.mem_map.1 he; exact hw x, fun h0 => ?_⟩
  have h0 : 0 < l.length := by simpa using h0
  obtain ⟨b, off, rfl, hb, hcell⟩ := hr h0
  have hx : 0 < xs.length := by rw [h1]; exact Nat.mul_pos h0 hsz
  obtain ⟨arr, t', r, h2, h3⟩ := cell_block (hcell 0 xs[0] (by simp))
  refine ⟨b, off, arr, t', r, rfl, hb, h2, ?_⟩
  have e : (arr.toList.drop off).take ((l.map f).length * sz) = xs := by
    apply List.ext_getElem?
    intro j
    rw [List.getElem?_take]
    split
    · rename_i hj
      have hj : j < xs.length := by rw [h1]; simpa using hj
      obtain ⟨arr2, t2, r2, h4, h5⟩ := cell_block (hcell j xs[j] (by simp))
      rw [h2] at h4
      injection h4 with h4
      injection h4 with h4
      subst h4
      rw [List.getElem?_drop, List.getElem?_eq_getElem hj]
      simpa using h5
    · rename_i hj
      rw [List.getElem?_eq_none]
      rw [h1]; simpa using hj
  rw [e]
  exact cells_vcs hC hc
theorem ints_vc {w : World} {v : Value} {l : List Int} (h : Ints w (Lt w) v l) : VC (baseM w) (intsA false l) [v] [] :=
  sl_vc (f := iA) (by decide) (fun c x hc => ⟨⟨hc, rfl⟩, rfl⟩) (fun _ => rfl) h
theorem vts_nil {m : Mem} : VTs m [] [] [] := ⟨rfl, rfl⟩
theorem vts_int {m : Mem} {l : List AV} {us : List Value} {x : Int} (k : VTs m l us []) : VTs m (iA x :: l) (.int .i64 x :: us) [] := (VTs_cons rfl).2 ⟨_, _, [], [], rfl, rfl, ⟨⟨rfl, rfl⟩, rfl⟩, k⟩
theorem vts_ints {w : World} {v : Value} {z : List Int} {l : List AV} {us : List Value} (h : Ints w (Lt w) v z) (k : VTs (baseM w) l us []) : VTs (baseM w) (intsA false z :: l) (v :: us) [] := (VTs_cons rfl).2 ⟨_, _, [], [], rfl, rfl, ints_vc h, k⟩
end Go.Proofs.Ytfkppbkipbbmaaa

namespace Go.Proofs.Ytfkppbkipbbmaaa
set_option linter.unusedVariables false
open Go.RowKit
set_option maxRecDepth 8000 in
set_option maxHeartbeats 1000000 in
theorem migrateNames_ps (l m : List Int) (hl : l.length * 8 ≤ 140737488351232) (hm : m.length * 8 ≤ 140737488351232) : PS Try.prog 4 [intsA false l, intsA false m] (bA true) := by
  have hwp := world_ps l
  have hok := genWorld_ok l
  obtain ⟨w, hw⟩ : ∃ w, genWorld l = w := ⟨_, rfl⟩
  rw [hw] at hwp hok
  clear hw
  have hL := hok.l
  have hmp := moves_ps w.kinds m hok.ks hm
  obtain ⟨hmv, hm6⟩ := movesOf_ok (l := m) hok.ks
  obtain ⟨ms, hms⟩ : ∃ ms, movesOf w.kinds m 0 [] = ms := ⟨_, rfl⟩
  rw [hms] at hmp hmv hm6
  have hMs : MsB (nameMs ms) := ⟨Nat.le_trans (List.length_filter_le ..) (by omega), fun x hx => by have := hmv.len x (List.mem_filter.1 hx).1; omega⟩
  have hwm := world_mps w (nameMs ms) hL hMs
  have hres := nameMs_world hok hmv hm6
  obtain ⟨⟨v, e⟩, hr⟩ : ∃ r, worldOf w (nameMs ms) = r := ⟨_, rfl⟩
  rw [hr] at hwm hres
  dsimp only at hwm hres
  refine Spec.of (nt := 44) (res := [.tmp 4]) Try.func4 rfl (by kernel_rfl) rfl rfl rfl fun Sf => ?_
  (repeat (first | (refine AOps.gN ?_; first | (refine AOps.g_callf ?_; first | refine AOps.c1 (h := (hwp ..)) (k := ?_) | refine AOps.c0 (h := (dropped_ps ..)) (k := ?_))) | refine WK ?_ | refine All.i fun V => ?_ | refine AllY.i fun Y => ?_))
  refine AWP.cond_f rfl rfl ?_
  (repeat refine WF ?_); refine AWP.region ?_; (repeat (first | (refine AOps.gN ?_; first | (refine AOps.g_callf ?_; first | refine AOps.c1 (h := (hwp ..)) (k := ?_))) | refine WO ?_ | refine All.i fun V => ?_ | refine AllY.i fun Y => ?_)); refine AOps.nil ?_; (repeat refine WN ?_)
  (repeat first | refine AOps.nil ?_ | refine WF ?_)
  (repeat refine WF ?_); refine AWP.region ?_; (repeat (first | (refine AOps.gN ?_; first | (refine AOps.g_callf ?_; first | refine AOps.t2 (h := hmp) fun Y => ?_)) | refine WO ?_ | refine All.i fun X => ?_ | refine AllY.i fun Y => ?_))
  refine AOps.rs fun Y2 => ?_
  have hdf := (deleteFuncM_sp Y ms 17 [] (fun x => !decide (x.act = 2)) rfl (by omega) (fun x _ => names1_ps x)).used
  rw [show ms.length = (ms.map (moveA false)).length from (List.length_map _).symm] at hdf
  (repeat (first | (refine AOps.gN ?_; first | (refine AOps.g_callf ?_; first | refine AOps.z2 (h := hdf) (hT := .ls (Y := Y2)) (k := ?_))) | refine WO ?_ | refine All.i fun X => ?_ | refine AllY.i fun Y => ?_))
  refine AOps.nil ?_
  (repeat refine WF ?_)
  have hfz : AV.frzs ((nameMs ms).map (moveA false)) = (nameMs ms).map (moveA false) := Frzs.h
  refine AWP.iceL 6 ((nameMs ms).map (moveA false)) hfz ?_
  (repeat refine WF ?_); refine AWP.region ?_; (repeat (first | (refine AOps.gN ?_; first | (refine AOps.g_callf ?_; first | refine AOps.c2 (h := (hwm ..)) (k := ?_))) | refine WO ?_ | refine All.i fun U => ?_ | refine AllY.i fun Y => ?_)); refine AOps.nil ?_; (repeat refine WN ?_)
  (repeat (first | refine WK ?_ | refine All.i fun X => ?_ | refine AllY.i fun Y => ?_))
  refine AWP.cond rfl (fun hb => ?_) (fun hb => ?_)
  · have hb : e ≠ 0 := by simpa using hb
    rcases hres with h | h | h
    · exact absurd h.1 hb
    · subst h
      (repeat (first | refine WK ?_ | refine All.i fun X => ?_ | refine AllY.i fun Y => ?_))
      (refine AWP.ret ?_; (repeat (first | refine inB_r ?_ | refine andThen_r ?_)); refine retQ_r ?_); refine Ends.ps ?_
      rfl
    · subst h
      (repeat (first | refine WK ?_ | refine All.i fun X => ?_ | refine AllY.i fun Y => ?_))
      (refine AWP.ret ?_; (repeat (first | refine inB_r ?_ | refine andThen_r ?_)); refine retQ_r ?_); refine Ends.ps ?_
      rfl
  · have hb : e = 0 := by simpa using hb
    have hv : v.items = w.items ∧ v.gens = w.gens := by
      rcases hres with h | h | h
      · exact h.2
      · omega
      · omega
    obtain ⟨vk, vg, vi⟩ := v
    obtain ⟨wk, wg, wi⟩ := w
    dsimp only at hv
    obtain ⟨rfl, rfl⟩ := hv
    have h1 := sameItemsT_ps vi vi hL.items
    have h2 := equalI_ps vg vg hL.gens
    rw [decide_eq_true rfl] at h1 h2
    (repeat (first | (refine AOps.gN ?_; first | (refine AOps.g_callf ?_; first | refine AOps.c2 (h := (h1 ..)) (k := ?_) | refine AOps.c2 (h := (h2 ..)) (k := ?_))) | refine WK ?_ | refine All.i fun X => ?_ | refine AllY.i fun Y => ?_))
    (refine AWP.ret ?_; (repeat (first | refine inB_r ?_ | refine andThen_r ?_)); refine retQ_r ?_); refine Ends.ps ?_
    rfl
theorem migrateNames_calls (z0 : List Int) (A0 : Option Addr) (n0 cap0 : Nat) (z1 : List Int) (A1 : Option Addr) (n1 cap1 : Nat) (w : World) (h0 : Ints w (Lt w) (.slice A0 n0 cap0) z0) (hlen0 : z0.length * 8 ≤ 140737488351232) (h1 : Ints w (Lt w) (.slice A1 n1 cap1) z1) (hlen1 : z1.length * 8 ≤ 140737488351232) :
    Calls Try.prog 4 #[.slice A0 n0 cap0, .slice A1 n1 cap1] w fun e w' => e = .returned (.bool true) ∧ Below w.heap.size w w' :=
  (migrateNames_ps z0 z1 hlen0 hlen1).calls_bool (vts_ints h0 (vts_ints h1 (vts_nil)))
end Go.Proofs.Ytfkppbkipbbmaaa
