/-
  Part 5 of the texts under the law MigrateJoins: the layer of abstract values, walks and plain laws. Conditions: those that each theorem names.
-/
import Derived.Below
import Derived.Test.YtfkppbkipbbmaaaMigrateJoinsP4
namespace Go.Proofs.Ytfkppbkipbbmaaa
set_option linter.unusedVariables false
/-- A list that is filled from the left: the first i of l, then z. -/
def fillTo {α : Type} (f : α → AV) (z : AV) (l : List α) (i : Nat) : List AV := (l.take i).map f ++ List.replicate (l.length - i) z
theorem fillTo_zero {α : Type} (f : α → AV) (z : AV) (l : List α) : fillTo f z l 0 = List.replicate l.length z := by simp [fillTo]
theorem fillTo_len {α : Type} (f : α → AV) (z : AV) (l : List α) (i : Nat) (h : i ≤ l.length) : (fillTo f z l i).length = l.length := by simp [fillTo]; omega
theorem fillTo_at {α : Type} (f : α → AV) (z : AV) (l : List α) {i : Nat} (h : i < l.length) : (fillTo f z l i)[i]? = some z := by
  unfold fillTo
  rw [List.getElem?_append_right (by simp; omega)]
  simp only [List.length_map, List.length_take, Nat.min_eq_left (Nat.le_of_lt h), Nat.sub_self]
  rw [List.getElem?_replicate, if_pos (by omega)]
theorem fillTo_set {α : Type} (f : α → AV) (z : AV) (l : List α) {i : Nat} (h : i < l.length) : (fillTo f z l i).set i (f l[i]) = fillTo f z l (i + 1) := by
  unfold fillTo
  rw [List.set_append_right _ _ (by simp; omega), List.take_add_one, List.getElem?_eq_getElem h]
  simp only [List.length_map, List.length_take, Nat.min_eq_left (Nat.le_of_lt h), Nat.sub_self, Option.toList_some, List.map_append, List.map_cons, List.map_nil, List.append_assoc]
  congr 1
  rw [show l.length - i = (l.length - (i + 1)) + 1 from by omega, List.replicate_succ]
  rfl
theorem fillTo_all {α : Type} (f : α → AV) (z : AV) (l : List α) {i : Nat} (h : l.length ≤ i) : fillTo f z l i = l.map f := by
  unfold fillTo
  rw [List.take_of_length_le h, show l.length - i = 0 from by omega]
  simp
theorem copyComps_ps (l : List Comp) (hl : l.length ≤ 1099511627776) (hv : ∀ c ∈ l, c.vals.length ≤ 1099511627776) : PS Try.prog 88 [compsA false false l] (compsA true false l) := by
  refine Spec.of (nt := 27) (res := [.tmp 2]) Try.func88 rfl (by kernel_rfl) rfl rfl rfl fun Sf => ?_
  have hl' : (l.map (compA false)).length ≤ 1099511627776 := by simpa using hl
  (repeat (first | (refine AOps.gN ?_; first | (refine AOps.g_make ?_; refine AOps.goM (.agg [iA 0, .prim (.slice none 0 0)]) fun K => ?_)) | refine WK ?_ | refine All.i fun X => ?_ | refine AllY.i fun Y => ?_))
  refine AWP.lp (fun i : Nat => ⟨[(3, .sl K 0 (l.map (compA false)).length), (9, compsA false false l), (10, iA (l.map (compA false)).length), (11, iA i)], (K, .row 141 2 (fillTo (compA false) (.agg [iA 0, .prim (.slice none 0 0)]) l i)) :: Sf⟩) (fun i => i ≤ l.length) (fun i => l.length - i) 0 (Nat.zero_le _) ?_ ⟨by (repeat (first | exact .nil | refine .cons (by first | rfl | assumption) ?_)), by rw [fillTo_zero, ← List.length_map (f := compA false)]; exact Sub.f⟩
  rintro i hi
  (repeat (first | refine WK ?_ | refine All.i fun X => ?_ | refine AllY.i fun Y => ?_))
  refine AWP.cond rfl (fun hc => ?_) (fun hc => ?_)
  · have h : i < l.length := by simpa using hc
    have hm : i < (l.map (compA false)).length := by simpa using h
    have hat := fillTo_at (compA false) (.agg [iA 0, .prim (.slice none 0 0)]) l h
    (repeat (first | refine WK ?_ | refine All.i fun X => ?_ | refine AllY.i fun Y => ?_))
    (repeat refine WF ?_); refine AWP.region_run (by kernel_rfl) (by kernel_rfl) ?_; (repeat (first | (refine RGo.gN ?_; first | (refine RGo.g_callf ?_; first | refine RGo.c1 (h := (cloneI_ps _ (by have := hv _ (List.getElem_mem h); omega))) (k := ?_))) | (refine RGo.gQ ?_; first | (refine RGo.g_callf ?_; first | refine RGo.c1 (h := (cloneI_ps _ (by have := hv _ (List.getElem_mem h); omega))) (k := ?_))) | refine RK ?_ | refine RGo.nil (by kernel_rfl) ?_))
    (repeat (first | refine WK ?_ | refine All.i fun X => ?_ | refine AllY.i fun Y => ?_))
    have hs := fillTo_set (compA false) (.agg [iA 0, .prim (.slice none 0 0)]) l h
    refine lp_nextS (i + 1) h ?_
    dsimp only
    rw [← hs]
    exact Sub.f
  · have h : l.length ≤ i := by rw [decide_eq_false_iff_not, List.length_map] at hc; omega
    rw [fillTo_all _ _ _ h]
    (repeat (first | refine WK ?_ | refine All.i fun X => ?_ | refine AllY.i fun Y => ?_))
    (refine AWP.ret ?_; (repeat (first | refine inB_r ?_ | refine andThen_r ?_)); refine retQ_r ?_)
    exact ⟨[.sl K 0 (l.map (compA false)).length], [.lst true 141 2 (l.map (compA false))], _, [], .cons (.tmp rfl) rfl .nil, .cons (.cell (.sl (p := 0) .here rfl)) .nil, by exact Sub.f, rfl, rfl⟩
end Go.Proofs.Ytfkppbkipbbmaaa

namespace Go.Proofs.Ytfkppbkipbbmaaa
set_option linter.unusedVariables false
/-- An item whose list of components is its own. -/
def itemB (x : Item) : AV := .agg [iA x.ent.n, iA x.ent.gen, compsA true false x.comps]
instance {x : Item} : Frz (itemB x) (itemA false x) := ⟨by unfold itemB itemA; exact Frz.h⟩
abbrev itemsB (o : Bool) (l : List Item) : AV := .lst o 36 3 (l.map itemB)
/-- A world whose lists are its own. -/
def wdCp (w : Wd) : AV := .agg [kindsA true true w.kinds, intsA true w.gens, itemsB true w.items]
abbrev itemZ : AV := .agg [iA 0, iA 0, .prim (.slice none 0 0)]
set_option maxRecDepth 8000 in
set_option maxHeartbeats 2000000 in
theorem copy_ps (w : Wd) (hw : WdL w) : PS Try.prog 52 [wdA false w] (wdCp w) := by
  obtain ⟨ks, gens, items⟩ := w
  obtain ⟨⟨hk0, hk1⟩, hg, hi0, hi1⟩ := hw
  dsimp only at hk0 hk1 hg hi0 hi1
  have hkc := kindCopy_ps ks hk0 hk1
  have hgc := cloneI_ps gens (by omega)
  have hgm : (gens.map iA).length = gens.length := List.length_map _
  have him : (items.map (itemA false)).length = items.length := List.length_map _
  refine Spec.of (nt := 37) (res := [.cell 2 26]) Try.func52 rfl (by kernel_rfl) rfl rfl rfl fun Sf => ?_
  (repeat refine WF ?_); refine AWP.region ?_; (repeat (first | (refine AOps.gN ?_; first | (refine AOps.g_box ?_; refine AOps.goB ?_)) | refine WO ?_ | refine All.i fun R => ?_ | refine AllY.i fun Y => ?_)); refine AOps.nil ?_; (repeat refine WN ?_)
  (repeat refine WF ?_)
  refine AWP.rs fun W3 => AWP.rs fun I => AWP.rs fun G => AWP.rs fun K => ?_
  (repeat refine WF ?_); refine AWP.region_run (by kernel_rfl) (by kernel_rfl) ?_; (repeat (first | (refine RGo.gN ?_; first | refine RGo.t1 (h := hkc) (k := ?_) | refine RGo.t1 (h := hgc) (k := ?_) | refine RGo.s (W.make rfl rfl (by exact At.f) rfl (.inl rfl) rfl rfl (Nat.le_refl _) (by rw [him]; omega) (by rw [him]; unfold maxLen; omega)) rfl ?_) | (refine RGo.gQ ?_; first | refine RGo.t1 (h := hkc) (k := ?_) | refine RGo.t1 (h := hgc) (k := ?_) | refine RGo.s (W.make rfl rfl (by exact At.f) rfl (.inl rfl) rfl rfl (Nat.le_refl _) (by rw [him]; omega) (by rw [him]; unfold maxLen; omega)) rfl ?_) | refine RK ?_ | refine RGo.nil (by kernel_rfl) ?_))
  have hz0 : List.replicate (items.map (itemA false)).length (zAV [.int .i64 0, .int .i64 0, .slice none 0 0] true) = fillTo itemB itemZ items 0 := by rw [fillTo_zero, him]; rfl
  rw [hz0]
  (repeat first | refine AOps.nil ?_ | refine WF ?_)
  (repeat refine WF ?_); refine AWP.region ?_; (repeat (first | refine WO ?_ | refine All.i fun X => ?_ | refine AllY.i fun Y => ?_)); refine AOps.nil ?_; (repeat refine WN ?_)
  (repeat first | refine AOps.nil ?_ | refine WF ?_)
  refine AWP.lp2 (fun (i : Nat) (M : List AV) => ⟨[(2, .ptr R 0 0), (3, .ptr W3 0 0), (18, itemsA false false items), (19, iA (items.map (itemA false)).length), (20, iA i)], (K, .row 44 2 (ks.map (kindA true))) :: (G, .row 3 1 (gens.map iA)) :: (I, .row 36 3 M) :: (W3, .row 26 3 [.agg [.sl K 0 (ks.map (kindA true)).length, .sl G 0 (gens.map iA).length, .sl I 0 (items.map (itemA false)).length]]) :: (R, .row 26 3 [.agg [.prim (.slice none 0 0), .prim (.slice none 0 0), .prim (.slice none 0 0)]]) :: Sf⟩) (fun i M => i ≤ items.length ∧ M = fillTo itemB itemZ items i) (fun i _ => items.length - i) 0 _ ⟨Nat.zero_le _, rfl⟩ ?_
  rintro i M ⟨hi, hM⟩
  (repeat (first | refine WK ?_ | refine All.i fun X => ?_ | refine AllY.i fun Y => ?_))
  refine AWP.cond rfl (fun hc => ?_) (fun hc => ?_)
  · have h : i < items.length := by rw [decide_eq_true_eq, him] at hc; omega
    have hset := fillTo_set itemB itemZ items h
    have hMat : M[i]? = some itemZ := by rw [hM]; exact fillTo_at _ _ _ h
    have hMl : M.length = items.length := by rw [hM]; exact fillTo_len _ _ _ _ hi
    have hcl := hi1 _ (List.getElem_mem h)
    obtain ⟨⟨⟨en, eg⟩, cs⟩, hit⟩ : ∃ it, items[i] = it := ⟨_, rfl⟩
    rw [hit] at hset hcl
    have hat : (items.map (itemA false))[i]? = some (itemA false ⟨⟨en, eg⟩, cs⟩) := by rw [List.getElem?_map, List.getElem?_eq_getElem h, hit]; rfl
    have hil : i < (items.map (itemA false)).length := by omega
    have hcc := copyComps_ps cs hcl.1 hcl.2
    have hcm : (cs.map (compA false)).length = cs.length := List.length_map _
    (repeat (first | refine WK ?_ | refine All.i fun V => ?_ | refine AllY.i fun Y => ?_))
    refine AWP.rs fun Y => ?_
    (repeat refine WF ?_); refine AWP.region_run (by kernel_rfl) (by kernel_rfl) ?_; (repeat (first | (refine RGo.gN ?_; first | refine RGo.t1 (h := hcc) (k := ?_)) | (refine RGo.gQ ?_; first | refine RGo.t1 (h := hcc) (k := ?_)) | refine RK ?_ | refine RGo.nil (by kernel_rfl) ?_))
    (repeat refine WF ?_)
    have hMs : (M.set i (.agg [iA en, iA eg, .sl Y 0 (cs.map (compA false)).length]))[i]? = some (.agg [iA en, iA eg, .sl Y 0 (cs.map (compA false)).length]) := by rw [List.getElem?_set_self (by omega)]
    refine AWP.closeIn (X := Y) (Y := I) (by exact At.f) (by exact At.f) rfl rfl (Hos.at hMs (.agg (.tail (.tail (.head .here))))) ?_
    rw [List.set_set]
    (repeat (first | refine WK ?_ | refine All.i fun X => ?_ | refine AllY.i fun Y => ?_))
    refine lp_next2 (i + 1) _ ⟨h, ?_⟩
    rw [hM]; exact hset
  · have h : i = items.length := by rw [decide_eq_false_iff_not, him] at hc; omega
    subst h
    rw [fillTo_all _ _ _ (Nat.le_refl _)] at hM
    subst hM
    have hkl : (ks.map (kindA true)).length = (ks.map (kindA true)).length := rfl
    have hI : (items.map (itemA false)).length = (items.map itemB).length := by simp
    (repeat (first | refine WK ?_ | refine All.i fun X => ?_ | refine AllY.i fun Y => ?_))
    (refine AWP.ret ?_; (repeat (first | refine inB_r ?_ | refine andThen_r ?_)); refine retQ_r ?_)
    exact ⟨[.agg [.sl K 0 (ks.map (kindA true)).length, .sl G 0 (gens.map iA).length, .sl I 0 (items.map (itemA false)).length]], [wdCp ⟨ks, gens, items⟩], _, [], .cons (.cell (p := 4) rfl (by exact At.f) TAg.h TSize.h rfl rfl) rfl .nil, .cons (.agg (.cons (.sl (p := 0) .here rfl) (.cons (.sl (p := 0) .here rfl) (.cons (.sl (p := 0) .here hI) .nil)))) .nil, by exact Sub.f, rfl, rfl⟩
end Go.Proofs.Ytfkppbkipbbmaaa

namespace Go.Proofs.Ytfkppbkipbbmaaa
set_option linter.unusedVariables false
theorem oneErr_len {k : Kind} (h : oneErr k = 0) : k.fields.length ≤ 8 := by
  unfold oneErr at h
  split at h
  · split at h
    · cases h
    · omega
  · cases h
def fitL (k : Kind) (vals : List Int) (i : Nat) : List Int := (List.zipWith nearOf k.fields vals).take i ++ List.replicate (vals.length - i) 0
theorem fitL_at {k : Kind} {vals : List Int} {i : Nat} (hl : vals.length = k.fields.length) (h : i < vals.length) : ((fitL k vals i).map iA)[i]? = some (iA 0) := by
  have hz : (List.zipWith nearOf k.fields vals).length = vals.length := by simp; omega
  rw [List.getElem?_map, fitL, List.getElem?_append_right (by simp; omega)]
  rw [List.length_take, Nat.min_eq_left (by omega), Nat.sub_self, List.getElem?_replicate, if_pos (by omega)]
  rfl
theorem fitL_set {k : Kind} {vals : List Int} {i : Nat} (hl : vals.length = k.fields.length) (h : i < vals.length) : ((fitL k vals i).map iA).set i (iA (nearOf (k.fields[i]'(by omega)) vals[i])) = (fitL k vals (i + 1)).map iA := by
  have hz : (List.zipWith nearOf k.fields vals).length = vals.length := by simp; omega
  rw [← List.map_set]
  congr 1
  unfold fitL
  rw [List.set_append_right _ _ (by simp; omega), List.length_take, Nat.min_eq_left (by omega), Nat.sub_self]
  rw [show vals.length - i = (vals.length - (i + 1)) + 1 from by omega, List.replicate_succ, List.set_cons_zero]
  rw [List.take_add_one, List.getElem?_eq_getElem (by omega), List.append_assoc]
  simp
theorem fit_ps (k : Kind) (vals : List Int) : PS Try.prog 123 [kindA false k, intsA false vals] (.tup [intsA true (fitOf k vals).1, iA (fitOf k vals).2]) := by
  refine Spec.of (nt := 43) (res := [.tmp 4, .tmp 5]) Try.func123 rfl (by kernel_rfl) rfl rfl rfl fun Sf => ?_
  (repeat (first | (refine AOps.gN ?_; first | refine AOps.p (W.call1 rfl (one_ps _) rfl) rfl ?_ | (refine AOps.rs fun B => ?_; refine AOps.s (W.box rfl .here rfl) rfl ?_)) | refine WK ?_ | refine All.i fun X => ?_ | refine AllY.i fun Y => ?_))
  refine AWP.cond rfl (fun hb => ?_) (fun hb => ?_)
  · have hb : oneErr k ≠ 0 := by simpa using hb
    (repeat (first | refine WK ?_ | refine All.i fun X => ?_ | refine AllY.i fun Y => ?_))
    (refine AWP.ret ?_; (repeat (first | refine inB_r ?_ | refine andThen_r ?_)); refine retQ_r ?_)
    rw [show fitOf k vals = ([], oneErr k) from by simp [fitOf, hb]]
    exact ⟨[.prim (.slice none 0 0), iA (oneErr k)], [intsA true [], iA (oneErr k)], _, [], .cons (.tmp rfl) rfl (.cons (.tmp rfl) rfl .nil), .cons (.cell .nil) (.cons (.cell .same) .nil), by exact Sub.f, rfl, rfl⟩
  have hk : oneErr k = 0 := by simpa using hb
  have h8 := oneErr_len hk
  (repeat (first | refine WK ?_ | refine All.i fun X => ?_ | refine AllY.i fun Y => ?_))
  refine AWP.cond rfl (fun hb => ?_) (fun hb => ?_)
  · have hb : vals.length ≠ k.fields.length := by rw [decide_eq_true_eq, List.length_map, List.length_map] at hb; omega
    (repeat (first | refine WK ?_ | refine All.i fun X => ?_ | refine AllY.i fun Y => ?_))
    (refine AWP.ret ?_; (repeat (first | refine inB_r ?_ | refine andThen_r ?_)); refine retQ_r ?_)
    rw [show fitOf k vals = ([], 1) from by simp [fitOf, hk, hb]]
    exact ⟨[.prim (.slice none 0 0), iA 1], [intsA true [], iA 1], _, [], .cons (.tmp rfl) rfl (.cons (.tmp rfl) rfl .nil), .cons (.cell .nil) (.cons (.cell .same) .nil), by exact Sub.f, rfl, rfl⟩
  have hl : vals.length = k.fields.length := by rw [decide_eq_false_iff_not, List.length_map, List.length_map] at hb; omega
  have hv : (vals.map iA).length ≤ 8 := by simp; omega
  have hz : List.replicate (vals.map iA).length (zAV [.int .i64 0] false) = (fitL k vals 0).map iA := by simp [fitL]; exact .inr rfl
  (repeat (first | (refine AOps.gN ?_; first | (refine AOps.rs fun XL => ?_; refine AOps.s (W.make rfl rfl .here rfl (.inr rfl) rfl rfl (Nat.le_refl _) (by omega) (Nat.le_trans hv (by decide))) rfl ?_)) | refine AWP.loopR (fun i : Nat => ⟨[(1, intsA false vals), (7, .sl XL 0 (vals.map iA).length), (25, fieldsA false k.fields), (26, iA (k.fields.map fieldA).length), (27, iA i)], (XL, .row 3 1 ((fitL k vals i).map iA)) :: (B, .row 44 2 [kindA false k]) :: Sf⟩) (fun i => i ≤ vals.length) (fun i => vals.length - i) 0 (Nat.zero_le _) ⟨.cons rfl (.cons rfl (.cons rfl (.cons rfl (.cons rfl .nil)))), (by show List.Sublist ((XL, .row 3 1 ((fitL k vals 0).map iA)) :: (B, .row 44 2 [kindA false k]) :: Sf) _; rw [← hz]; exact Sub.f)⟩ ?_ | refine WK ?_ | refine All.i fun X => ?_ | refine AllY.i fun Y => ?_))
  rintro i hi
  (repeat (first | refine WK ?_ | refine All.i fun X => ?_ | refine AllY.i fun Y => ?_))
  refine AWP.cond rfl (fun hb => ?_) (fun hb => ?_)
  · have h : i < vals.length := by rw [decide_eq_true_eq, List.length_map] at hb; omega
    have h' : i < k.fields.length := by omega
    (repeat (first | (refine AOps.gN ?_; first | refine AOps.p (W.idxL rfl rfl rfl (map_at _ h')) rfl ?_) | refine WK ?_ | refine All.i fun X => ?_ | refine AllY.i fun Y => ?_))
    (repeat refine WF ?_); refine AWP.region_run (by kernel_rfl) (by kernel_rfl) ?_; (repeat (first | (refine RGo.gN ?_; first | refine RGo.p (W.idxL rfl rfl rfl (map_at _ h)) rfl ?_ | refine RGo.p (W.call2 rfl rfl (near_ps _ _) rfl) rfl ?_ | refine RGo.p (W.idx rfl rfl (by exact At.f) rfl (by simpa using h) (Nat.zero_add _)) rfl ?_ | refine RGo.s (W.store rfl rfl (by exact At.f) (fitL_at hl h) (by exact rfl)) rfl ?_) | (refine RGo.gQ ?_; first | refine RGo.p (W.idxL rfl rfl rfl (map_at _ h)) rfl ?_ | refine RGo.p (W.call2 rfl rfl (near_ps _ _) rfl) rfl ?_ | refine RGo.p (W.idx rfl rfl (by exact At.f) rfl (by simpa using h) (Nat.zero_add _)) rfl ?_ | refine RGo.s (W.store rfl rfl (by exact At.f) (fitL_at hl h) (by exact rfl)) rfl ?_) | refine RK ?_ | refine RGo.nil (by kernel_rfl) ?_))
    (repeat (first | refine WK ?_ | refine All.i fun X => ?_ | refine AllY.i fun Y => ?_))
    refine ⟨i + 1, by omega, by omega, .cons rfl (.cons rfl (.cons rfl (.cons rfl (.cons rfl .nil)))), ?_⟩
    show List.Sublist ((XL, .row 3 1 ((fitL k vals (i + 1)).map iA)) :: (B, .row 44 2 [kindA false k]) :: Sf) _
    rw [← fitL_set hl h]
    exact Sub.f
  · have h : ¬ i < vals.length := by rw [decide_eq_false_iff_not, List.length_map] at hb; omega
    (repeat (first | refine WK ?_ | refine All.i fun X => ?_ | refine AllY.i fun Y => ?_))
    (refine AWP.ret ?_; (repeat (first | refine inB_r ?_ | refine andThen_r ?_)); refine retQ_r ?_)
    rw [show fitOf k vals = (List.zipWith nearOf k.fields vals, 0) from by simp [fitOf, hk, hl]]
    have he : (fitL k vals i).map iA = (List.zipWith nearOf k.fields vals).map iA := by
      congr 1
      rw [fitL, show vals.length - i = 0 from by omega, List.take_of_length_le (by simp; omega)]
      simp
    refine ⟨[.sl XL 0 (vals.map iA).length, iA 0], [.lst true 3 1 ((fitL k vals i).map iA), iA 0], _, [], .cons (.tmp rfl) rfl (.cons (.tmp rfl) rfl .nil), .cons (.cell (.sl (p := 0) .here (by rw [he]; simp; omega))) (.cons (.cell .same) .nil), by exact Sub.f, ?_, rfl⟩
    rw [he]
    rfl
end Go.Proofs.Ytfkppbkipbbmaaa

namespace Go.Proofs.Ytfkppbkipbbmaaa
set_option linter.unusedVariables false
theorem fitOf_len8 {k : Kind} {vals : List Int} (h : (fitOf k vals).2 = 0) : (fitOf k vals).1.length = vals.length ∧ vals.length ≤ 8 := by
  unfold fitOf at h ⊢
  split
  · rename_i h1; rw [if_pos h1] at h; exact absurd h h1
  · rename_i h1
    rw [if_neg h1] at h
    split
    · rename_i h2; rw [if_pos h2] at h; cases h
    · rename_i h2; have := oneErr_len (Decidable.not_not.1 h1); simp; omega
theorem holds_ps (k : Kind) (vals : List Int) : PS Try.prog 98 [kindA false k, intsA false vals] (bA (holdsOf k vals)) := by
  refine Spec.of (nt := 31) (res := [.tmp 4]) Try.func98 rfl (by kernel_rfl) rfl rfl rfl fun Sf => ?_
  have hfr : (AV.tup [intsA true (fitOf k vals).1, iA (fitOf k vals).2]).frz = .tup [intsA false (fitOf k vals).1, iA (fitOf k vals).2] := by
    show AV.tup [(intsA true (fitOf k vals).1).frz, _] = _
    rw [intsA_frz]
    rfl
  (repeat (first | (refine AOps.gN ?_; first | refine AOps.p (W.callF2 rfl rfl (fit_ps _ _) rfl hfr) rfl ?_) | refine WK ?_ | refine All.i fun X => ?_ | refine AllY.i fun Y => ?_))
  refine AWP.cond rfl (fun hb => ?_) (fun hb => ?_)
  · have hb : (fitOf k vals).2 ≠ 0 := by simpa using hb
    (repeat (first | refine WK ?_ | refine All.i fun X => ?_ | refine AllY.i fun Y => ?_))
    (refine AWP.ret ?_; (repeat (first | refine inB_r ?_ | refine andThen_r ?_)); refine retQ_r ?_)
    refine Ends.plain rfl rfl (by exact Sub.f) ⟨?_, rfl⟩
    simp [holdsOf, hb]
  have hb : (fitOf k vals).2 = 0 := by simpa using hb
  obtain ⟨hlen, h8⟩ := fitOf_len8 hb
  obtain ⟨fl, hfl⟩ : ∃ fl, fl = (fitOf k vals).1 := ⟨_, rfl⟩
  rw [← hfl] at hlen
  rw [show holdsOf k vals = decide (fl = vals) from by simp [holdsOf, hb, hfl]]
  rw [← hfl]
  clear hfr
  (repeat (first | refine AWP.loopR (fun i : Nat => ⟨[(1, intsA false vals), (5, intsA false fl), (17, iA (fl.map iA).length), (18, iA i)], Sf⟩) (fun i => i ≤ vals.length ∧ ∀ j (h : j < vals.length), j < i → fl[j]'(by omega) = vals[j]) (fun i => vals.length - i) 0 ⟨Nat.zero_le _, fun j h hj => absurd hj (by omega)⟩ ⟨.cons rfl (.cons rfl (.cons rfl (.cons rfl .nil))), by exact Sub.f⟩ ?_ | refine WK ?_ | refine All.i fun X => ?_ | refine AllY.i fun Y => ?_))
  rintro i ⟨hi, he⟩
  (repeat (first | refine WK ?_ | refine All.i fun X => ?_ | refine AllY.i fun Y => ?_))
  refine AWP.cond rfl (fun hc => ?_) (fun hc => ?_)
  · have h : i < fl.length := by rw [decide_eq_true_eq, List.length_map] at hc; omega
    have h' : i < vals.length := by omega
    (repeat (first | refine WK ?_ | refine All.i fun X => ?_ | refine AllY.i fun Y => ?_))
    (repeat refine WF ?_); refine AWP.region_run (by kernel_rfl) (by kernel_rfl) ?_; (repeat (first | (refine RGo.gN ?_; first | refine RGo.p (W.idxL rfl rfl rfl (map_at _ h)) rfl ?_ | refine RGo.p (W.idxL rfl rfl rfl (map_at _ h')) rfl ?_) | (refine RGo.gQ ?_; first | refine RGo.p (W.idxL rfl rfl rfl (map_at _ h)) rfl ?_ | refine RGo.p (W.idxL rfl rfl rfl (map_at _ h')) rfl ?_) | refine RK ?_ | refine RGo.nil (by kernel_rfl) ?_))
    (repeat (first | refine WK ?_ | refine All.i fun X => ?_ | refine AllY.i fun Y => ?_))
    refine AWP.cond rfl (fun hd => ?_) (fun hd => ?_)
    · have hd : fl[i] ≠ vals[i] := by simpa using hd
      (repeat (first | refine WK ?_ | refine All.i fun X => ?_ | refine AllY.i fun Y => ?_))
      (refine AWP.ret ?_; (repeat (first | refine inB_r ?_ | refine andThen_r ?_)); refine retQ_r ?_)
      refine Ends.plain rfl rfl (by exact Sub.f) ⟨?_, rfl⟩
      rw [decide_eq_false (fun e => hd (by subst e; rfl))]
    · have hd : fl[i] = vals[i] := by simpa using hd
      (repeat (first | refine WK ?_ | refine All.i fun X => ?_ | refine AllY.i fun Y => ?_))
      refine ⟨i + 1, ⟨by omega, fun j h1 h2 => ?_⟩, by omega, .cons rfl (.cons rfl (.cons rfl (.cons rfl .nil))), by exact Sub.f⟩
      by_cases e : j = i
      · subst e; exact hd
      · exact he j h1 (by omega)
  · have h : ¬ i < fl.length := by rw [decide_eq_false_iff_not, List.length_map] at hc; omega
    (repeat (first | refine WK ?_ | refine All.i fun X => ?_ | refine AllY.i fun Y => ?_))
    (refine AWP.ret ?_; (repeat (first | refine inB_r ?_ | refine andThen_r ?_)); refine retQ_r ?_)
    refine Ends.plain rfl rfl (by exact Sub.f) ⟨?_, rfl⟩
    rw [decide_eq_true (List.ext_getElem hlen fun j h1 h2 => he j h2 (by omega))]
end Go.Proofs.Ytfkppbkipbbmaaa

namespace Go.Proofs.Ytfkppbkipbbmaaa
set_option linter.unusedVariables false
theorem held_ps (ks : List Kind) (l : List Comp) (hl : l.length ≤ 1099511627776) : PS Try.prog 65 [kindsA false false ks, compsA false false l] (bA (heldOf ks l)) := by
  refine Spec.of (nt := 39) (res := [.tmp 4]) Try.func65 rfl (by kernel_rfl) rfl rfl rfl fun Sf => ?_
  have hlm : (l.map (compA false)).length = l.length := List.length_map _
  (repeat (first | refine WK ?_ | refine All.i fun X => ?_ | refine AllY.i fun Y => ?_))
  refine AWP.lp2 (fun (i : Nat) (last : Int) => ⟨[(0, kindsA false false ks), (5, iA last), (8, compsA false false l), (9, iA (l.map (compA false)).length), (10, iA i)], Sf⟩) (fun i last => i ≤ l.length ∧ -1 ≤ last ∧ heldFrom ks last (l.drop i) = heldOf ks l) (fun i _ => l.length - i) 0 (-1) ⟨Nat.zero_le _, by omega, rfl⟩ ?_
  rintro i last ⟨hi, hla, he⟩
  (repeat (first | refine WK ?_ | refine All.i fun X => ?_ | refine AllY.i fun Y => ?_))
  refine AWP.cond rfl (fun hc => ?_) (fun hc => ?_)
  · have h : i < l.length := by rw [decide_eq_true_eq, hlm] at hc; omega
    obtain ⟨⟨ck, cv⟩, hcc⟩ : ∃ c, l[i] = c := ⟨_, rfl⟩
    have hat : (l.map (compA false))[i]? = some (compA false ⟨ck, cv⟩) := by rw [List.getElem?_map, List.getElem?_eq_getElem h, hcc]; rfl
    (repeat (first | refine WK ?_ | refine All.i fun X => ?_ | refine AllY.i fun Y => ?_))
    rcases Bool.eq_false_or_eq_true (decide (ck ≤ last)) with g1 | g1
    · (repeat refine WF ?_); refine AWP.region_run (by kernel_rfl) (by kernel_rfl) ?_; (repeat (first | (refine RGo.gQ ?_; first | refine RGo.goNU ?_ | refine RGo.goNV ?_) | refine RK ?_ | refine RGo.nil (by kernel_rfl) ?_))
      refine AWP.cond_t rfl (by first | rfl | assumption) ?_
      (repeat (first | refine WK ?_ | refine All.i fun X => ?_ | refine AllY.i fun Y => ?_))
      (refine AWP.ret ?_; (repeat (first | refine inB_r ?_ | refine andThen_r ?_)); refine retQ_r ?_); refine Ends.ps ?_
      rw [← he, heldFrom_no h hcc (.inl (by simpa using g1))]
    · obtain ⟨n, rfl⟩ : ∃ n : Nat, ck = n := ⟨ck.toNat, by rw [decide_eq_false_iff_not] at g1; omega⟩
      rcases Bool.eq_false_or_eq_true (decide (((ks.map (kindA false)).length : Int) ≤ n)) with g2 | g2
      · (repeat refine WF ?_); refine AWP.region_run (by kernel_rfl) (by kernel_rfl) ?_; (repeat (first | (refine RGo.gQ ?_; first | refine RGo.goNU ?_ | refine RGo.goNV ?_) | refine RK ?_ | refine RGo.nil (by kernel_rfl) ?_))
        refine AWP.cond_t rfl (by first | rfl | assumption) ?_
        (repeat (first | refine WK ?_ | refine All.i fun X => ?_ | refine AllY.i fun Y => ?_))
        (refine AWP.ret ?_; (repeat (first | refine inB_r ?_ | refine andThen_r ?_)); refine retQ_r ?_); refine Ends.ps ?_
        rw [← he, heldFrom_no h hcc (.inr (by rw [decide_eq_true_eq, List.length_map] at g2; exact g2))]
      · have hkl : n < ks.length := by rw [decide_eq_false_iff_not, List.length_map] at g2; omega
        obtain ⟨k, hk⟩ : ∃ k, ks[n] = k := ⟨_, rfl⟩
        have hka : ks[n]? = some k := by rw [List.getElem?_eq_getElem hkl, hk]
        have hat2 : (ks.map (kindA false))[n]? = some (kindA false k) := by rw [List.getElem?_map, hka]; rfl
        have hst := heldFrom_at (last := last) (k := k) h hcc hka
        dsimp only at hst
        rw [decide_eq_true (by rw [decide_eq_false_iff_not] at g1; omega), decide_eq_true (p := (n : Int) < _) (by omega), Bool.true_and, Bool.true_and, he] at hst
        have hh := holds_ps k cv
        obtain ⟨b, hb⟩ : ∃ b, holdsOf k cv = b := ⟨_, rfl⟩
        rw [hb] at hst hh
        cases b
        · (repeat refine WF ?_); refine AWP.region_run (by kernel_rfl) (by kernel_rfl) ?_; (repeat (first | (refine RGo.gN ?_; first | (refine RGo.g_callf ?_; first | refine RGo.c2 (h := (hh ..)) (k := ?_))) | (refine RGo.gQ ?_; first | (refine RGo.g_callf ?_; first | refine RGo.c2 (h := (hh ..)) (k := ?_))) | refine RK ?_ | refine RGo.nil (by kernel_rfl) ?_))
          refine AWP.cond_t rfl (by first | rfl | assumption) ?_
          (repeat (first | refine WK ?_ | refine All.i fun X => ?_ | refine AllY.i fun Y => ?_))
          (refine AWP.ret ?_; (repeat (first | refine inB_r ?_ | refine andThen_r ?_)); refine retQ_r ?_); refine Ends.ps ?_
          rw [hst]; rfl
        · (repeat refine WF ?_); refine AWP.region_run (by kernel_rfl) (by kernel_rfl) ?_; (repeat (first | (refine RGo.gN ?_; first | (refine RGo.g_callf ?_; first | refine RGo.c2 (h := (hh ..)) (k := ?_))) | (refine RGo.gQ ?_; first | (refine RGo.g_callf ?_; first | refine RGo.c2 (h := (hh ..)) (k := ?_))) | refine RK ?_ | refine RGo.nil (by kernel_rfl) ?_))
          refine AWP.cond_f rfl (by first | rfl | assumption) ?_
          (repeat (first | refine WK ?_ | refine All.i fun X => ?_ | refine AllY.i fun Y => ?_))
          refine lp_next2 (i + 1) n ⟨h, by omega, hst.symm⟩
  · have h : i = l.length := by rw [decide_eq_false_iff_not, hlm] at hc; omega
    subst h
    (repeat (first | refine WK ?_ | refine All.i fun X => ?_ | refine AllY.i fun Y => ?_))
    (refine AWP.ret ?_; (repeat (first | refine inB_r ?_ | refine andThen_r ?_)); refine retQ_r ?_); refine Ends.ps ?_
    rw [← he, List.drop_length]; rfl
set_option maxHeartbeats 2000000 in
theorem check_ps' (w : Wd) (hg : w.gens.length ≤ 1099511627776) (hi : w.items.length ≤ 1099511627776) (hc : ∀ it ∈ w.items, it.comps.length ≤ 1099511627776) : PS Try.prog 25 [wdA false w] (iA (wdErr w)) := by
  have hck := check_ps w.kinds
  obtain ⟨ke, hke⟩ : ∃ ke, checkErr w.kinds = ke := ⟨_, rfl⟩
  obtain ⟨we, hwe⟩ : ∃ we, wdErr w = we := ⟨_, rfl⟩
  rw [hwe]
  unfold wdErr at hwe
  rw [hke] at hck hwe
  obtain ⟨ks, gens, items⟩ := w
  dsimp only at hwe hg hi hc hck hke
  refine Spec.of (nt := 94) (res := [.tmp 2]) Try.func25 rfl (by kernel_rfl) rfl rfl rfl fun Sf => ?_
  have hgm : (gens.map iA).length = gens.length := List.length_map _
  have him : (items.map (itemA false)).length = items.length := List.length_map _
  (repeat refine WF ?_); refine AWP.region ?_; (repeat (first | (refine AOps.gN ?_; first | (refine AOps.g_box ?_; refine AOps.goB ?_)) | refine WO ?_ | refine All.i fun X => ?_ | refine AllY.i fun Y => ?_)); refine AOps.nil ?_; (repeat refine WN ?_)
  (repeat refine WF ?_); refine AWP.region ?_; (repeat (first | (refine AOps.gN ?_; first | (refine AOps.g_callf ?_; first | refine AOps.c1 (h := (hck ..)) (k := ?_))) | refine WO ?_ | refine All.i fun X => ?_ | refine AllY.i fun Y => ?_)); refine AOps.nil ?_; (repeat refine WN ?_)
  (repeat (first | refine WK ?_ | refine All.i fun X => ?_ | refine AllY.i fun Y => ?_))
  refine AWP.cond rfl (fun hd => ?_) (fun hd => ?_)
  · have hd : ke ≠ 0 := by simpa using hd
    (repeat (first | refine WK ?_ | refine All.i fun X => ?_ | refine AllY.i fun Y => ?_))
    (refine AWP.ret ?_; (repeat (first | refine inB_r ?_ | refine andThen_r ?_)); refine retQ_r ?_); refine Ends.ps ?_
    rw [← hwe, if_pos hd]
  have hd : ke = 0 := by simpa using hd
  rw [if_neg (by simp [hd])] at hwe
  rcases Bool.eq_false_or_eq_true (decide (256 < ((gens.map iA).length : Int))) with g1 | g1
  · (repeat (first | refine WK ?_ | refine All.i fun X => ?_ | refine AllY.i fun Y => ?_))
    refine AWP.cond_t rfl (by first | rfl | assumption) ?_
    (repeat (first | refine WK ?_ | refine All.i fun X => ?_ | refine AllY.i fun Y => ?_))
    (refine AWP.ret ?_; (repeat (first | refine inB_r ?_ | refine andThen_r ?_)); refine retQ_r ?_); refine Ends.ps ?_
    rw [← hwe, if_pos (.inl (by rw [decide_eq_true_eq, hgm] at g1; omega))]
  rcases Bool.eq_false_or_eq_true (decide (((gens.map iA).length : Int) < (items.map (itemA false)).length)) with g2 | g2
  · (repeat (first | refine WK ?_ | refine All.i fun X => ?_ | refine AllY.i fun Y => ?_))
    refine AWP.cond_t rfl (by first | rfl | assumption) ?_
    (repeat (first | refine WK ?_ | refine All.i fun X => ?_ | refine AllY.i fun Y => ?_))
    (refine AWP.ret ?_; (repeat (first | refine inB_r ?_ | refine andThen_r ?_)); refine retQ_r ?_); refine Ends.ps ?_
    rw [← hwe, if_pos (.inr (by rw [decide_eq_true_eq, hgm, him] at g2; omega))]
  (repeat (first | refine WK ?_ | refine All.i fun X => ?_ | refine AllY.i fun Y => ?_))
  refine AWP.cond_f rfl (by first | rfl | assumption) ?_
  rw [if_neg (by rw [decide_eq_false_iff_not, hgm] at g1; rw [decide_eq_false_iff_not, hgm, him] at g2; omega)] at hwe
  (repeat (first | refine WK ?_ | refine All.i fun X => ?_ | refine AllY.i fun Y => ?_))
  refine AWP.lp (fun i : Nat => ⟨[(1, .fp (wdA false ⟨ks, gens, items⟩).cells), (29, intsA false gens), (30, iA (gens.map iA).length), (31, iA i)], Sf⟩) (fun i => i ≤ gens.length ∧ ∀ j (h : j < gens.length), j < i → 0 ≤ gens[j] ∧ gens[j] ≤ 1073741824) (fun i => gens.length - i) 0 ⟨Nat.zero_le _, fun j h hj => absurd hj (by omega)⟩ ?_
  rintro i ⟨hil, hgo⟩
  (repeat (first | refine WK ?_ | refine All.i fun X => ?_ | refine AllY.i fun Y => ?_))
  refine AWP.cond rfl (fun he => ?_) (fun he => ?_)
  · have h : i < gens.length := by rw [decide_eq_true_eq, hgm] at he; omega
    obtain ⟨x, hx⟩ : ∃ x, gens[i] = x := ⟨_, rfl⟩
    have hat : (gens.map iA)[i]? = some (iA x) := by rw [List.getElem?_map, List.getElem?_eq_getElem h, hx]; rfl
    have hbad : ¬ (0 ≤ x ∧ x ≤ 1073741824) → gensOk gens = false := fun hn => by
      unfold gensOk
      rw [List.all_eq_false]
      refine ⟨x, hx ▸ List.getElem_mem h, ?_⟩
      simp only [Bool.and_eq_true, decide_eq_true_eq]
      exact hn
    (repeat (first | refine WK ?_ | refine All.i fun X => ?_ | refine AllY.i fun Y => ?_))
    refine AWP.cond rfl (fun hf => ?_) (fun hf => ?_)
    · have hf : ¬ (0 ≤ x ∧ x ≤ 1073741824) := by simp at hf; omega
      (repeat (first | refine WK ?_ | refine All.i fun X => ?_ | refine AllY.i fun Y => ?_))
      (refine AWP.ret ?_; (repeat (first | refine inB_r ?_ | refine andThen_r ?_)); refine retQ_r ?_); refine Ends.ps ?_
      rw [← hwe, if_pos (hbad hf)]
    · have hf : 0 ≤ x ∧ x ≤ 1073741824 := by simp at hf; omega
      (repeat (first | refine WK ?_ | refine All.i fun X => ?_ | refine AllY.i fun Y => ?_))
      refine lp_next (i + 1) ⟨h, fun j h1 h2 => ?_⟩
      by_cases e : j = i
      · subst e; rw [hx]; exact hf
      · exact hgo j h1 (by omega)
  have hgok : gensOk gens = true := by
    have h : i = gens.length := by rw [decide_eq_false_iff_not, hgm] at he; omega
    unfold gensOk
    rw [List.all_eq_true]
    intro x hx
    obtain ⟨j, hj, rfl⟩ := List.getElem_of_mem hx
    simp only [Bool.and_eq_true, decide_eq_true_eq]
    exact hgo j hj (by omega)
  rw [if_neg (by simp [hgok])] at hwe
  (repeat (first | refine WK ?_ | refine All.i fun X => ?_ | refine AllY.i fun Y => ?_))
  refine AWP.lp2 (fun (i : Nat) (last : Int) => ⟨[(1, .fp (wdA false ⟨ks, gens, items⟩).cells), (6, iA last), (43, itemsA false false items), (44, iA (items.map (itemA false)).length), (45, iA i)], Sf⟩) (fun i last => i ≤ items.length ∧ -1 ≤ last ∧ itemsFrom ks gens last (items.drop i) = itemsFrom ks gens (-1) items) (fun i _ => items.length - i) 0 (-1) ⟨Nat.zero_le _, by omega, rfl⟩ ?_
  clear hil hgo he i
  rintro i last ⟨hil, hla, he⟩
  (repeat (first | refine WK ?_ | refine All.i fun X => ?_ | refine AllY.i fun Y => ?_))
  refine AWP.cond rfl (fun hd' => ?_) (fun hd' => ?_)
  · have h : i < items.length := by rw [decide_eq_true_eq, him] at hd'; omega
    obtain ⟨⟨⟨en, eg⟩, cs⟩, hit⟩ : ∃ it, items[i] = it := ⟨_, rfl⟩
    have hat : (items.map (itemA false))[i]? = some (itemA false ⟨⟨en, eg⟩, cs⟩) := by rw [List.getElem?_map, List.getElem?_eq_getElem h, hit]; rfl
    have hcl := hc _ (hit ▸ List.getElem_mem h)
    dsimp only at hcl
    (repeat (first | refine WK ?_ | refine All.i fun X => ?_ | refine AllY.i fun Y => ?_))
    rcases Bool.eq_false_or_eq_true (decide (en ≤ last)) with q1 | q1
    · (repeat refine WF ?_); refine AWP.region_run (by kernel_rfl) (by kernel_rfl) ?_; (repeat (first | (refine RGo.gQ ?_; first | refine RGo.goNU ?_ | refine RGo.goNV ?_) | refine RK ?_ | refine RGo.nil (by kernel_rfl) ?_))
      refine AWP.cond_t rfl (by first | rfl | assumption) ?_
      (repeat (first | refine WK ?_ | refine All.i fun X => ?_ | refine AllY.i fun Y => ?_))
      (refine AWP.ret ?_; (repeat (first | refine inB_r ?_ | refine andThen_r ?_)); refine retQ_r ?_); refine Ends.ps ?_
      rw [← hwe, if_pos (by rw [← he, itemsFrom_no h hit (.inl (by simpa using q1))])]
    obtain ⟨n, rfl⟩ : ∃ n : Nat, en = n := ⟨en.toNat, by rw [decide_eq_false_iff_not] at q1; omega⟩
    rcases Bool.eq_false_or_eq_true (decide (((gens.map iA).length : Int) ≤ n)) with q2 | q2
    · (repeat refine WF ?_); refine AWP.region_run (by kernel_rfl) (by kernel_rfl) ?_; (repeat (first | (refine RGo.gQ ?_; first | refine RGo.goNU ?_ | refine RGo.goNV ?_) | refine RK ?_ | refine RGo.nil (by kernel_rfl) ?_))
      refine AWP.cond_t rfl (by first | rfl | assumption) ?_
      (repeat (first | refine WK ?_ | refine All.i fun X => ?_ | refine AllY.i fun Y => ?_))
      (refine AWP.ret ?_; (repeat (first | refine inB_r ?_ | refine andThen_r ?_)); refine retQ_r ?_); refine Ends.ps ?_
      rw [← hwe, if_pos (by rw [← he, itemsFrom_no h hit (.inr (by rw [decide_eq_true_eq, hgm] at q2; exact q2))])]
    have hkl : n < gens.length := by rw [decide_eq_false_iff_not, hgm] at q2; omega
    obtain ⟨g, hg'⟩ : ∃ g, gens[n] = g := ⟨_, rfl⟩
    have hga : gens[n]? = some g := by rw [List.getElem?_eq_getElem hkl, hg']
    have hat2 : (gens.map iA)[n]? = some (iA g) := by rw [List.getElem?_map, hga]; rfl
    have hst := itemsFrom_at (ks := ks) (last := last) (g := g) h hit hga
    dsimp only at hst
    rw [decide_eq_true (by rw [decide_eq_false_iff_not] at q1; omega), decide_eq_true (p := (n : Int) < _) (by omega), Bool.true_and, Bool.true_and, he] at hst
    rcases Bool.eq_false_or_eq_true (decide (eg ≠ g)) with q3 | q3
    · (repeat refine WF ?_); refine AWP.region_run (by kernel_rfl) (by kernel_rfl) ?_; (repeat (first | (refine RGo.gQ ?_; first | refine RGo.goNU ?_ | refine RGo.goNV ?_) | refine RK ?_ | refine RGo.nil (by kernel_rfl) ?_))
      refine AWP.cond_t rfl (by first | rfl | assumption) ?_
      (repeat (first | refine WK ?_ | refine All.i fun X => ?_ | refine AllY.i fun Y => ?_))
      (refine AWP.ret ?_; (repeat (first | refine inB_r ?_ | refine andThen_r ?_)); refine retQ_r ?_); refine Ends.ps ?_
      rw [← hwe, if_pos (by rw [hst, decide_eq_false (by simpa using q3)]; rfl)]
    rcases Bool.eq_false_or_eq_true (decide (eg = 1073741824)) with q4 | q4
    · (repeat refine WF ?_); refine AWP.region_run (by kernel_rfl) (by kernel_rfl) ?_; (repeat (first | (refine RGo.gQ ?_; first | refine RGo.goNU ?_ | refine RGo.goNV ?_) | refine RK ?_ | refine RGo.nil (by kernel_rfl) ?_))
      refine AWP.cond_t rfl (by first | rfl | assumption) ?_
      (repeat (first | refine WK ?_ | refine All.i fun X => ?_ | refine AllY.i fun Y => ?_))
      (refine AWP.ret ?_; (repeat (first | refine inB_r ?_ | refine andThen_r ?_)); refine retQ_r ?_); refine Ends.ps ?_
      rw [← hwe, if_pos (by rw [hst, q4]; simp)]
    have hh := held_ps ks cs hcl
    obtain ⟨b, hb⟩ : ∃ b, heldOf ks cs = b := ⟨_, rfl⟩
    rw [decide_eq_true (p := eg = g) (by simpa using q3), q4, hb, Bool.true_and, Bool.not_false, Bool.true_and] at hst
    rw [hb] at hh
    cases b
    · (repeat refine WF ?_); refine AWP.region_run (by kernel_rfl) (by kernel_rfl) ?_; (repeat (first | (refine RGo.gN ?_; first | (refine RGo.g_callf ?_; first | refine RGo.c2 (h := (hh ..)) (k := ?_))) | (refine RGo.gQ ?_; first | (refine RGo.g_callf ?_; first | refine RGo.c2 (h := (hh ..)) (k := ?_))) | refine RK ?_ | refine RGo.nil (by kernel_rfl) ?_))
      refine AWP.cond_t rfl (by first | rfl | assumption) ?_
      (repeat (first | refine WK ?_ | refine All.i fun X => ?_ | refine AllY.i fun Y => ?_))
      (refine AWP.ret ?_; (repeat (first | refine inB_r ?_ | refine andThen_r ?_)); refine retQ_r ?_); refine Ends.ps ?_
      rw [← hwe, if_pos (by rw [hst]; rfl)]
    · (repeat refine WF ?_); refine AWP.region_run (by kernel_rfl) (by kernel_rfl) ?_; (repeat (first | (refine RGo.gN ?_; first | (refine RGo.g_callf ?_; first | refine RGo.c2 (h := (hh ..)) (k := ?_))) | (refine RGo.gQ ?_; first | (refine RGo.g_callf ?_; first | refine RGo.c2 (h := (hh ..)) (k := ?_))) | refine RK ?_ | refine RGo.nil (by kernel_rfl) ?_))
      refine AWP.cond_f rfl (by first | rfl | assumption) ?_
      (repeat (first | refine WK ?_ | refine All.i fun X => ?_ | refine AllY.i fun Y => ?_))
      refine lp_next2 (i + 1) n ⟨h, by omega, hst.symm⟩
  · have h : i = items.length := by rw [decide_eq_false_iff_not, him] at hd'; omega
    (repeat (first | refine WK ?_ | refine All.i fun X => ?_ | refine AllY.i fun Y => ?_))
    (refine AWP.ret ?_; (repeat (first | refine inB_r ?_ | refine andThen_r ?_)); refine retQ_r ?_); refine Ends.ps ?_
    rw [← hwe, if_neg (by rw [← he, h, List.drop_length]; simp [itemsFrom])]
end Go.Proofs.Ytfkppbkipbbmaaa

namespace Go.Proofs.Ytfkppbkipbbmaaa
set_option linter.unusedVariables false
/-- Moves that are not too long. -/
def MsB (ms : List Move) : Prop := ms.length ≤ 1099511627776 ∧ ∀ m ∈ ms, m.whole.fields.length ≤ 1099511627776
set_option maxHeartbeats 1000000 in
theorem kinds_mps (ks : List Kind) (ms : List Move) (hm : MsB ms) : PS Try.prog 22 [kindsA false false ks, movesA false false ms] (.tup [kindsA false false (kindsOf ks ms).1, iA (kindsOf ks ms).2]) := by
  have hck := check_ps ks
  obtain ⟨r, hr⟩ : ∃ r, kindsOf ks ms = r := ⟨_, rfl⟩
  rw [hr]
  unfold kindsOf at hr
  have hmm : (ms.map (moveA false)).length = ms.length := List.length_map _
  refine Spec.of (nt := 39) (res := [.tmp 4, .tmp 5]) Try.func22 rfl (by kernel_rfl) rfl rfl rfl fun Sf => ?_
  (repeat (first | (refine AOps.gN ?_; first | (refine AOps.g_callf ?_; first | refine AOps.c1 (h := (hck ..)) (k := ?_))) | refine WK ?_ | refine All.i fun X => ?_ | refine AllY.i fun Y => ?_))
  refine AWP.cond rfl (fun hc => ?_) (fun hc => ?_)
  · have hc : checkErr ks ≠ 0 := by simpa using hc
    rw [if_pos hc] at hr
    subst hr
    (repeat (first | refine WK ?_ | refine All.i fun X => ?_ | refine AllY.i fun Y => ?_))
    (refine AWP.ret ?_; (repeat (first | refine inB_r ?_ | refine andThen_r ?_)); refine retQ_r ?_)
    exact ⟨[.prim (.slice none 0 0), iA (checkErr ks)], [kindsA false false [], iA (checkErr ks)], _, [], .cons (.tmp rfl) rfl (.cons (.tmp rfl) rfl .nil), .cons (.cell .nil) (.cons (.cell .same) .nil), by exact Sub.f, rfl, rfl⟩
  have hc : checkErr ks = 0 := by simpa using hc
  rw [if_neg (by simp [hc])] at hr
  have hks := (checkErr_iff ks).1 hc
  (repeat (first | refine WK ?_ | refine All.i fun X => ?_ | refine AllY.i fun Y => ?_))
  refine AWP.cond rfl (fun hd => ?_) (fun hd => ?_)
  · have hd : 100 < ms.length := by rw [decide_eq_true_eq, hmm] at hd; omega
    rw [if_pos hd] at hr
    subst hr
    (repeat (first | refine WK ?_ | refine All.i fun X => ?_ | refine AllY.i fun Y => ?_))
    (refine AWP.ret ?_; (repeat (first | refine inB_r ?_ | refine andThen_r ?_)); refine retQ_r ?_)
    exact ⟨[.prim (.slice none 0 0), iA 2], [kindsA false false [], iA 2], _, [], .cons (.tmp rfl) rfl (.cons (.tmp rfl) rfl .nil), .cons (.cell .nil) (.cons (.cell .same) .nil), by exact Sub.f, rfl, rfl⟩
  have hd : ¬ 100 < ms.length := by rw [decide_eq_false_iff_not, hmm] at hd; omega
  rw [if_neg hd] at hr
  have hcp := kindCopy_ps ks hks.b.1 hks.b.2
  (repeat (first | (refine AOps.gN ?_; first | (refine AOps.g_callf ?_; first | refine AOps.c1 (h := (hcp ..)) (k := ?_))) | refine WK ?_ | refine All.i fun X => ?_ | refine AllY.i fun Y => ?_))
  refine AWP.lp2 (fun (q : Nat) (cur : List Kind) => ⟨[(0, kindsA false false cur), (21, movesA false false ms), (22, iA (ms.map (moveA false)).length), (23, iA q)], Sf⟩) (fun q cur => q ≤ ms.length ∧ KsOK cur ∧ kindsFold cur (ms.drop q) = r) (fun q _ => ms.length - q) 0 ks ⟨Nat.zero_le _, hks, hr⟩ ?_
  rintro q cur ⟨hq, hcur, hfold⟩
  (repeat (first | refine WK ?_ | refine All.i fun X => ?_ | refine AllY.i fun Y => ?_))
  refine AWP.cond rfl (fun he => ?_) (fun he => ?_)
  · have h : q < ms.length := by rw [decide_eq_true_eq, hmm] at he; omega
    obtain ⟨m, hmq⟩ : ∃ m, ms[q] = m := ⟨_, rfl⟩
    have hat : (ms.map (moveA false))[q]? = some (moveA false m) := by rw [List.getElem?_map, List.getElem?_eq_getElem h, hmq]; rfl
    have hone := one_mps cur m hcur.b (hm.2 m (hmq ▸ List.getElem_mem h))
    rw [List.drop_eq_getElem_cons h, hmq, kindsFold] at hfold
    (repeat (first | (refine AOps.gN ?_; first | (refine AOps.g_callf ?_; first | refine AOps.c2 (h := (hone ..)) (k := ?_))) | refine WK ?_ | refine All.i fun V => ?_ | refine AllY.i fun Y => ?_))
    refine AWP.cond rfl (fun hf => ?_) (fun hf => ?_)
    · have hf : (stepOf cur m).2 ≠ 0 := by simpa using hf
      rw [if_pos hf] at hfold
      subst hfold
      (repeat (first | refine WK ?_ | refine All.i fun X => ?_ | refine AllY.i fun Y => ?_))
      (refine AWP.ret ?_; (repeat (first | refine inB_r ?_ | refine andThen_r ?_)); refine retQ_r ?_)
      exact ⟨[.prim (.slice none 0 0), iA (stepOf cur m).2], [kindsA false false [], iA (stepOf cur m).2], _, [], .cons (.tmp rfl) rfl (.cons (.tmp rfl) rfl .nil), .cons (.cell .nil) (.cons (.cell .same) .nil), by exact Sub.f, rfl, rfl⟩
    · have hf : (stepOf cur m).2 = 0 := by simpa using hf
      rw [if_neg (by simp [hf])] at hfold
      obtain ⟨_, _, _, _, hok⟩ := stepOf_cases hf
      (repeat (first | refine WK ?_ | refine All.i fun X => ?_ | refine AllY.i fun Y => ?_))
      refine lp_next2 (q + 1) (stepOf cur m).1 ⟨h, hok, hfold⟩
  · have h : q = ms.length := by rw [decide_eq_false_iff_not, hmm] at he; omega
    rw [h, List.drop_length, kindsFold] at hfold
    subst hfold
    (repeat (first | refine WK ?_ | refine All.i fun X => ?_ | refine AllY.i fun Y => ?_))
    (refine AWP.ret ?_; (repeat (first | refine inB_r ?_ | refine andThen_r ?_)); refine retQ_r ?_)
    exact ⟨[kindsA false false cur, iA 0], [kindsA false false cur, iA 0], _, [], .cons (.tmp rfl) rfl (.cons (.tmp rfl) rfl .nil), .cons (.cell .same) (.cons (.cell .same) .nil), by exact Sub.f, rfl, rfl⟩
abbrev wdN : AV := .agg [.prim (.slice none 0 0), .prim (.slice none 0 0), .prim (.slice none 0 0)]
/-- The items, the first n after a move. -/
def stepI (out : List Kind) (m : Move) (i j : Int) (l : List Item) (n : Nat) : List Item := (l.take n).map (fun it => ⟨it.ent, compsAt out m i j it.comps⟩) ++ l.drop n
theorem stepI_at {out : List Kind} {m : Move} {i j : Int} {l : List Item} {n : Nat} (h : n < l.length) : (stepI out m i j l n)[n]? = some l[n] := by
  unfold stepI
  rw [List.getElem?_append_right (by simp; omega)]
  simp only [List.length_map, List.length_take, Nat.min_eq_left (Nat.le_of_lt h), Nat.sub_self]
  rw [List.getElem?_drop]
  simp [h]
theorem stepI_set {out : List Kind} {m : Move} {i j : Int} {l : List Item} {n : Nat} (h : n < l.length) : (stepI out m i j l n).set n ⟨l[n].ent, compsAt out m i j l[n].comps⟩ = stepI out m i j l (n + 1) := by
  unfold stepI
  rw [List.set_append_right _ _ (by simp; omega)]
  simp only [List.length_map, List.length_take, Nat.min_eq_left (Nat.le_of_lt h), Nat.sub_self]
  rw [List.drop_eq_getElem_cons h, List.set_cons_zero, List.take_succ_eq_append_getElem h, List.map_append, List.append_assoc]
  rfl
theorem stepI_len {out : List Kind} {m : Move} {i j : Int} {l : List Item} {n : Nat} : (stepI out m i j l n).length = l.length := by unfold stepI; simp; omega
set_option maxRecDepth 8000 in
set_option maxHeartbeats 4000000 in
theorem world_mps (w : Wd) (ms : List Move) (hw : WdL w) (hm : MsB ms) : PS Try.prog 18 [wdA false w, movesA false false ms] (.tup [wdA false (worldOf w ms).1, iA (worldOf w ms).2]) := by
  have hck := check_ps' w hw.gens hw.items.1 (fun it hit => (hw.items.2 it hit).1)
  have hkn := kinds_mps w.kinds ms hm
  have hcp := copy_ps w hw
  obtain ⟨r, hr⟩ : ∃ r, worldOf w ms = r := ⟨_, rfl⟩
  rw [hr]
  unfold worldOf at hr
  have hmm : (ms.map (moveA false)).length = ms.length := List.length_map _
  refine Spec.of (nt := 84) (res := [.cell 4 26, .tmp 5]) Try.func18 rfl (by kernel_rfl) rfl rfl rfl fun Sf => ?_
  (repeat refine WF ?_); refine AWP.region ?_; (repeat (first | (refine AOps.gN ?_; first | (refine AOps.rs fun B => ?_; refine AOps.s (W.box rfl .here rfl) rfl ?_)) | refine WO ?_ | refine All.i fun R => ?_ | refine AllY.i fun Y => ?_)); refine AOps.nil ?_; (repeat refine WN ?_)
  (repeat refine WF ?_); refine AWP.region ?_; (repeat (first | (refine AOps.gN ?_; first | (refine AOps.g_callf ?_; first | refine AOps.c1 (h := (hck ..)) (k := ?_))) | refine WO ?_ | refine All.i fun X => ?_ | refine AllY.i fun Y => ?_)); refine AOps.nil ?_; (repeat refine WN ?_)
  (repeat (first | refine WK ?_ | refine All.i fun X => ?_ | refine AllY.i fun Y => ?_))
  refine AWP.cond rfl (fun hc => ?_) (fun hc => ?_)
  · have hc : wdErr w ≠ 0 := by simpa using hc
    rw [if_pos hc] at hr
    subst hr
    (repeat (first | refine WK ?_ | refine All.i fun X => ?_ | refine AllY.i fun Y => ?_))
    (refine AWP.ret ?_; (repeat (first | refine inB_r ?_ | refine andThen_r ?_)); refine retQ_r ?_)
    exact ⟨[wdN, iA (wdErr w)], [wdA false ⟨[], [], []⟩, iA (wdErr w)], _, [], .cons (.cell (p := 0) rfl (by exact At.f) TAg.h TSize.h rfl rfl) rfl (.cons (.tmp rfl) rfl .nil), .cons (.agg (.cons .nil (.cons .nil (.cons .nil .nil)))) (.cons (.cell .same) .nil), by exact Sub.f, rfl, rfl⟩
  have hc : wdErr w = 0 := by simpa using hc
  rw [if_neg (by simp [hc])] at hr
  have hok := (wdErr_iff w).1 hc
  (repeat (first | (refine AOps.gN ?_; first | (refine AOps.g_callf ?_; first | refine AOps.c2 (h := (hkn ..)) (k := ?_))) | refine WK ?_ | refine All.i fun X => ?_ | refine AllY.i fun Y => ?_))
  refine AWP.cond rfl (fun hd => ?_) (fun hd => ?_)
  · have hd : (kindsOf w.kinds ms).2 ≠ 0 := by simpa using hd
    rw [if_pos hd] at hr
    subst hr
    (repeat (first | refine WK ?_ | refine All.i fun X => ?_ | refine AllY.i fun Y => ?_))
    (refine AWP.ret ?_; (repeat (first | refine inB_r ?_ | refine andThen_r ?_)); refine retQ_r ?_)
    exact ⟨[wdN, iA (kindsOf w.kinds ms).2], [wdA false ⟨[], [], []⟩, iA (kindsOf w.kinds ms).2], _, [], .cons (.cell (p := 0) rfl (by exact At.f) TAg.h TSize.h rfl rfl) rfl (.cons (.tmp rfl) rfl .nil), .cons (.agg (.cons .nil (.cons .nil (.cons .nil .nil)))) (.cons (.cell .same) .nil), by exact Sub.f, rfl, rfl⟩
  have hd : (kindsOf w.kinds ms).2 = 0 := by simpa using hd
  rw [if_neg (by simp [hd])] at hr
  have hkf : kindsOf w.kinds ms = kindsFold w.kinds ms := by
    unfold kindsOf at hd ⊢
    rw [if_neg (by simp [hok.ks])] at hd ⊢
    split at hd
    · cases hd
    · rename_i h; rw [if_neg h]
  rw [hkf] at hd
  have hil : (w.items.map itemB).length = w.items.length := List.length_map _
  (repeat first | refine AOps.nil ?_ | refine WF ?_)
  refine AWP.rs fun I => ?_
  (repeat refine WF ?_); refine AWP.region ?_; (repeat (first | (refine AOps.gN ?_; first | (refine AOps.g_callf ?_; first | refine AOps.z1 (h := hcp) (hT := .v (.agg (.cons .frz (.cons .frz (.cons (.lst (Y := I) rfl) .nil))))) (k := ?_))) | refine WO ?_ | refine All.i fun X => ?_ | refine AllY.i fun Y => ?_))
  rw [show (kindsA true true w.kinds).frz = kindsA false false w.kinds from Frz.h, intsA_frz]
  have hfi : AV.frzs (w.items.map itemB) = w.items.map (itemA false) := Frzs.h
  refine AOps.frzRow I (w.items.map (itemA false)) hfi ?_
  (repeat (first | refine WK ?_ | refine All.i fun X => ?_ | refine AllY.i fun Y => ?_))
  refine AWP.lp2 (fun (q : Nat) (cur : Wd) => ⟨[(2, .ptr B 0 0), (4, .ptr R 0 0), (36, movesA false false ms), (37, iA (ms.map (moveA false)).length), (38, iA q)], (I, .row 36 3 (cur.items.map (itemA false))) :: (R, .row 26 3 [wdN]) :: (B, .row 26 3 [.agg [kindsA false false cur.kinds, intsA false cur.gens, .sl I 0 (w.items.map itemB).length]]) :: Sf⟩) (fun q cur => q ≤ ms.length ∧ WdOK cur ∧ cur.items.length = w.items.length ∧ (kindsFold cur.kinds (ms.drop q)).2 = 0 ∧ (ms.drop q).foldl worldStep cur = ms.foldl worldStep w) (fun q _ => ms.length - q) 0 w ⟨Nat.zero_le _, hok, rfl, hd, rfl⟩ ?_
  rintro q cur ⟨hq, hcur, hcl, hkd, hfold⟩
  have hlc : (cur.items.map (itemA false)).length = cur.items.length := List.length_map _
  (repeat (first | refine WK ?_ | refine All.i fun X => ?_ | refine AllY.i fun Y => ?_))
  refine AWP.cond rfl (fun he => ?_) (fun he => ?_)
  · have h : q < ms.length := by rw [decide_eq_true_eq, hmm] at he; omega
    obtain ⟨m, hmq⟩ : ∃ m, ms[q] = m := ⟨_, rfl⟩
    have hat : (ms.map (moveA false))[q]? = some (moveA false m) := by rw [List.getElem?_map, List.getElem?_eq_getElem h, hmq]; rfl
    have hcks := (checkErr_iff _).1 hcur.ks
    have hcL := hcur.l
    have hi40 : cur.items.length ≤ 1099511627776 := hcL.items.1
    have hm40 := hm.1
    have hone := one_mps cur.kinds m hcks.b (hm.2 m (hmq ▸ List.getElem_mem h))
    have hpl := place_ps cur.kinds m hcks.b
    rw [List.drop_eq_getElem_cons h, hmq] at hkd hfold
    obtain ⟨hf, hkd2⟩ := kindsFold_cons hkd
    rw [hkd2] at hkd
    rw [List.foldl_cons] at hfold
    obtain ⟨i, j, hp, hs, hok2⟩ := stepOf_cases hf
    have hws : worldStep cur m = ⟨(stepOf cur.kinds m).1, cur.gens, cur.items.map fun it => ⟨it.ent, compsAt (stepOf cur.kinds m).1 m i j it.comps⟩⟩ := by unfold worldStep; rw [hp]
    have hcok := worldStep_ok hcur hf
    have hcomp := fun (it : Item) (hit : it ∈ cur.items) => held_iff.1 (hcur.it it hit).2.2.2.2
    obtain ⟨out, hout⟩ : ∃ out, (stepOf cur.kinds m).1 = out := ⟨_, rfl⟩
    rw [hp] at hpl
    rw [hf, hout] at hone
    rw [hout] at hs hok2 hws
    have hkk : (worldStep cur m).kinds = out := by rw [hws]
    rw [hout] at hkd
    (repeat refine WF ?_); refine AWP.region ?_; (repeat (first | refine WO ?_ | refine All.i fun V => ?_ | refine AllY.i fun Y => ?_)); refine AOps.nil ?_; (repeat refine WN ?_)
    (repeat refine WF ?_); refine AWP.region ?_; (repeat (first | (refine AOps.gN ?_; first | (refine AOps.g_callf ?_; first | refine AOps.c2 (h := (hpl ..)) (k := ?_))) | refine WO ?_ | refine All.i fun X => ?_ | refine AllY.i fun Y => ?_)); refine AOps.nil ?_; (repeat refine WN ?_)
    (repeat refine WF ?_); refine AWP.region ?_; (repeat (first | (refine AOps.gN ?_; first | (refine AOps.g_callf ?_; first | refine AOps.c2 (h := (hone ..)) (k := ?_))) | refine WO ?_ | refine All.i fun X => ?_ | refine AllY.i fun Y => ?_)); refine AOps.nil ?_; (repeat refine WN ?_)
    (repeat (first | refine WK ?_ | refine All.i fun X => ?_ | refine AllY.i fun Y => ?_))
    refine AWP.lp (fun (n : Nat) => ⟨[(2, .ptr B 0 0), (4, .ptr R 0 0), (10, .ptr V 0 0), (11, iA i), (12, iA j), (14, kindsA false false out), (36, movesA false false ms), (37, iA (ms.map (moveA false)).length), (38, iA q), (59, iA (w.items.map itemB).length), (60, iA n)], (V, .row 46 10 [moveA false m]) :: (I, .row 36 3 ((stepI out m i j cur.items n).map (itemA false))) :: (R, .row 26 3 [wdN]) :: (B, .row 26 3 [.agg [kindsA false false cur.kinds, intsA false cur.gens, .sl I 0 (w.items.map itemB).length]]) :: Sf⟩) (fun n => n ≤ cur.items.length) (fun n => cur.items.length - n) 0 (Nat.zero_le _) ?_
    rintro n hn
    have hsl : ((stepI out m i j cur.items n).map (itemA false)).length = cur.items.length := by rw [List.length_map, stepI_len]
    (repeat (first | refine WK ?_ | refine All.i fun X => ?_ | refine AllY.i fun Y => ?_))
    refine AWP.cond rfl (fun hg => ?_) (fun hg => ?_)
    · have hnl : n < cur.items.length := by rw [decide_eq_true_eq, hil] at hg; omega
      have hset := stepI_set (out := out) (m := m) (i := i) (j := j) hnl
      have hsat := stepI_at (out := out) (m := m) (i := i) (j := j) hnl
      have hcit := hcomp _ (List.getElem_mem hnl)
      have hcL2 := hcL.items.2 _ (List.getElem_mem hnl)
      obtain ⟨⟨⟨en, eg⟩, cs⟩, hit⟩ : ∃ it, cur.items[n] = it := ⟨_, rfl⟩
      rw [hit] at hset hsat hcit hcL2
      dsimp only at hset hcit hcL2
      have hat2 : ((stepI out m i j cur.items n).map (itemA false))[n]? = some (itemA false ⟨⟨en, eg⟩, cs⟩) := by rw [List.getElem?_map, hsat]; rfl
      have hnl2 : n < (w.items.map itemB).length := by omega
      have hcmp := comps_mps out m i j cs hcL2.1 (fun c hc => by obtain ⟨_, _, k, hk, hh⟩ := hcit.2 c hc; obtain ⟨ho, hl, _⟩ := (holds_iff k c.vals).1 hh; have := ((oneErr_iff k).1 ho).ln; omega) (fun c hc => by obtain ⟨h1, h2, _⟩ := hcit.2 c hc; have := hcks.ln; omega) (fun c hc => compFit_of hs (hcit.2 c hc))
      obtain ⟨cs2, hcs2⟩ : ∃ cs2, compsAt out m i j cs = cs2 := ⟨_, rfl⟩
      rw [hcs2] at hcmp hset
      (repeat (first | refine WK ?_ | refine All.i fun X => ?_ | refine AllY.i fun Y => ?_))
      refine AWP.rs fun Y => ?_
      (repeat refine WF ?_); refine AWP.region_run (by kernel_rfl) (by kernel_rfl) ?_; (repeat (first | (refine RGo.gN ?_; first | refine RGo.t5 (h := hcmp) (k := ?_)) | (refine RGo.gQ ?_; first | refine RGo.t5 (h := hcmp) (k := ?_)) | refine RK ?_ | refine RGo.nil (by kernel_rfl) ?_))
      (repeat refine WF ?_)
      have hfz : AV.frzs (cs2.map (compA false)) = cs2.map (compA false) := Frzs.h
      have hset2 : ((stepI out m i j cur.items n).map (itemA false)).set n (.agg [iA en, iA eg, compsA false false cs2]) = (stepI out m i j cur.items (n + 1)).map (itemA false) := by rw [← hset, List.map_set]; rfl
      refine AWP.iceX Y (cs2.map (compA false)) hfz (Ics.at (List.getElem?_set_self (by rw [hsl]; exact hnl)) (.agg (.cons .same (.cons .same (.cons (.base .sl) .nil))))) ?_
      rw [List.set_set, hset2]
      (repeat (first | refine WK ?_ | refine All.i fun X => ?_ | refine AllY.i fun Y => ?_))
      refine lp_next (n + 1) hnl
    · have hnl : n = cur.items.length := by rw [decide_eq_false_iff_not, hil] at hg; omega
      have hfull : stepI out m i j cur.items cur.items.length = cur.items.map fun it => ⟨it.ent, compsAt out m i j it.comps⟩ := by unfold stepI; rw [List.take_length, List.drop_length, List.append_nil]
      subst hnl
      rw [hfull]
      (repeat (first | refine WK ?_ | refine All.i fun X => ?_ | refine AllY.i fun Y => ?_))
      refine lp_next2 (q + 1) ⟨out, cur.gens, cur.items.map fun it => ⟨it.ent, compsAt out m i j it.comps⟩⟩ ⟨h, by rw [← hws]; exact hcok, by simp [hcl], hkd, by rw [← hws]; exact hfold⟩
  · have h : q = ms.length := by rw [decide_eq_false_iff_not, hmm] at he; omega
    rw [h, List.drop_length] at hfold
    rw [← hfold] at hr
    subst hr
    have hfz : AV.frzs (cur.items.map (itemA false)) = cur.items.map (itemA false) := Frzs.h
    refine AWP.iceX I (cur.items.map (itemA false)) hfz (.cons (.agg (.cons .same (.cons .same (.cons (.base .sl) .nil)))) .nil) (hn := by rw [hil, hlc, hcl]) ?_
    (repeat (first | refine WK ?_ | refine All.i fun X => ?_ | refine AllY.i fun Y => ?_))
    (refine AWP.ret ?_; (repeat (first | refine inB_r ?_ | refine andThen_r ?_)); refine retQ_r ?_)
    exact ⟨[.agg [kindsA false false cur.kinds, intsA false cur.gens, itemsA false false cur.items], iA 0], [wdA false cur, iA 0], _, [], .cons (.cell (p := 1) rfl (by exact At.f) TAg.h TSize.h rfl rfl) rfl (.cons (.tmp rfl) rfl .nil), .cons (.agg (.cons .same (.cons .same (.cons .same .nil)))) (.cons (.cell .same) .nil), by exact Sub.f, rfl, rfl⟩
end Go.Proofs.Ytfkppbkipbbmaaa

namespace Go.Proofs.Ytfkppbkipbbmaaa
set_option linter.unusedVariables false
def nmOf (i b : Int) : List UInt8 := [110, UInt8.ofNat (97 + i % 26).toNat, UInt8.ofNat (97 + b % 26).toNat]
/-- A move out of raw numbers. -/
def moveAt (k : Kind) (a b c i : Int) : Move := ⟨a % 7, k.name, match k.fields[(c % k.fields.length).toNat]? with | some f => f.name | none => [], nmOf i b, c, ⟨nmOf i b, 1 + c % 12, b % 30 - 20⟩, ⟨nmOf i b, [⟨[113], 4, c.tmod 9⟩]⟩⟩
def moveOf (ks : List Kind) (a b c i : Int) : Move :=
  match ks[(b % ks.length).toNat]? with
  | none => ⟨0, [], [], [], 0, ⟨[], 0, 0⟩, ⟨[], []⟩⟩
  | some k => moveAt k a b c i
/-- The moves out of raw numbers from the i-th one on, behind those of out. -/
def movesOf : List Kind → List Int → Nat → List Move → List Move
  | ks, a :: b :: c :: l, i, out =>
    if out.length < 6 ∧ 0 < ks.length then
      if (kindsOf ks [moveOf ks a b c i]).2 = 0 then movesOf (kindsOf ks [moveOf ks a b c i]).1 l (i + 3) (out ++ [moveOf ks a b c i])
      else movesOf ks l (i + 3) out
    else out
  | _, _, _, out => out
/-- What all lists of moves have in common; n: at most so many. -/
inductive Mvs : List Kind → List Move → Prop
  | nil {ks : List Kind} : Mvs ks []
  | cons {ks : List Kind} {a b c i : Int} {ms : List Move} (h0 : 0 < ks.length) (h : (stepOf ks (moveOf ks a b c i)).2 = 0) (k : Mvs (stepOf ks (moveOf ks a b c i)).1 ms) : Mvs ks (moveOf ks a b c i :: ms)
theorem kindsOf_one {ks : List Kind} {m : Move} (h : checkErr ks = 0) : kindsOf ks [m] = if (stepOf ks m).2 ≠ 0 then ([], (stepOf ks m).2) else ((stepOf ks m).1, 0) := by
  unfold kindsOf
  rw [if_neg (by simp [h]), if_neg (by simp)]
  rfl
theorem stepOf_ok {ks : List Kind} {m : Move} (hf : (stepOf ks m).2 = 0) : checkErr (stepOf ks m).1 = 0 := by
  obtain ⟨_, _, _, _, h⟩ := stepOf_cases hf
  exact (checkErr_iff _).2 h
theorem movesOf_app : (l : List Int) → (ks : List Kind) → (i : Nat) → (out : List Move) → checkErr ks = 0 → out.length ≤ 6 → ∃ ms, movesOf ks l i out = out ++ ms ∧ Mvs ks ms ∧ (out ++ ms).length ≤ 6
  | [], ks, i, out, _, ho => ⟨[], by simp [movesOf], .nil, by simpa using ho⟩
  | [_], ks, i, out, _, ho => ⟨[], by simp [movesOf], .nil, by simpa using ho⟩
  | [_, _], ks, i, out, _, ho => ⟨[], by simp [movesOf], .nil, by simpa using ho⟩
  | a :: b :: c :: l, ks, i, out, hk, ho => by
    unfold movesOf
    split
    · rename_i h
      have h1 := kindsOf_one (m := moveOf ks a b c i) hk
      by_cases hf : (stepOf ks (moveOf ks a b c i)).2 = 0
      · rw [if_neg (by simp [hf])] at h1
        rw [h1, if_pos rfl]
        obtain ⟨ms, e1, e2, e3⟩ := movesOf_app l (stepOf ks (moveOf ks a b c i)).1 (i + 3) (out ++ [moveOf ks a b c i]) (stepOf_ok hf) (by simp; omega)
        exact ⟨moveOf ks a b c i :: ms, by rw [e1]; simp, .cons h.2 hf e2, by simpa using e3⟩
      · rw [if_pos hf] at h1
        rw [h1, if_neg hf]
        exact movesOf_app l ks (i + 3) out hk ho
    · exact ⟨[], by simp, .nil, by simpa using ho⟩
theorem moveAt_len (k : Kind) (a b c i : Int) : (moveAt k a b c i).whole.fields.length ≤ 1 := by simp [moveAt]
theorem moveOf_len (ks : List Kind) (a b c i : Int) : (moveOf ks a b c i).whole.fields.length ≤ 1 := by
  unfold moveOf
  split
  · simp
  · exact moveAt_len ..
theorem Mvs.len {ks : List Kind} {ms : List Move} (h : Mvs ks ms) : ∀ m ∈ ms, m.whole.fields.length ≤ 1 := by
  induction h with
  | nil => simp
  | cons h0 h k ih =>
    intro m hm
    rcases List.mem_cons.1 hm with rfl | hm
    · exact moveOf_len ..
    · exact ih m hm
theorem Mvs.fold {ks : List Kind} {ms : List Move} (h : Mvs ks ms) : (kindsFold ks ms).2 = 0 := by
  induction h with
  | nil => rfl
  | cons h0 h k ih => rw [kindsFold, if_neg (by simp [h])]; exact ih
theorem movesOf_ok {ks : List Kind} {l : List Int} (hk : checkErr ks = 0) : Mvs ks (movesOf ks l 0 []) ∧ (movesOf ks l 0 []).length ≤ 6 := by
  obtain ⟨ms, e1, e2, e3⟩ := movesOf_app l ks 0 [] hk (by simp)
  rw [e1]
  exact ⟨e2, e3⟩
end Go.Proofs.Ytfkppbkipbbmaaa

namespace Go.Proofs.Ytfkppbkipbbmaaa
set_option linter.unusedVariables false
theorem u8wrap {x : Int} (h : 0 ≤ x) (h2 : x < 256) : IntKind.u8.wrap x = x := by
  have : IntKind.u8.wrap x = x % 256 := by simp [IntKind.wrap, IntKind.bits, IntKind.signed]
  rw [this]; omega
theorem nmOf_l (i b : Int) : [AV.prim (.int .u8 (97 + i % 26)), AV.prim (.int .u8 (97 + b % 26))] = [UInt8.ofNat (97 + i % 26).toNat, UInt8.ofNat (97 + b % 26).toNat].map fun b => AV.prim (.int .u8 ((b.toNat : Nat) : Int)) := by
  simp
  omega
set_option maxRecDepth 8000 in
set_option maxHeartbeats 1000000 in
theorem move_ps (ks : List Kind) (a b c i : Int) (hk : 0 < ks.length) (hl : KsB ks) : PS Try.prog 51 [kindsA false false ks, iA a, iA b, iA c, iA i] (moveA false (moveOf ks a b c i)) := by
  have hkm : (ks.map (kindA false)).length = ks.length := List.length_map _
  have hl40 := hl.1
  obtain ⟨n, hn⟩ : ∃ n : Nat, b % (ks.length : Int) = n := ⟨(b % (ks.length : Int)).toNat, by have := Int.emod_nonneg b (show (ks.length : Int) ≠ 0 by omega); omega⟩
  have hnl : n < ks.length := by have := Int.emod_lt_of_pos b (show (0 : Int) < ks.length by omega); omega
  obtain ⟨k, hkn⟩ : ∃ k, ks[n] = k := ⟨_, rfl⟩
  have hb1 : PS Try.prog 31 [iA b, iA (ks.map (kindA false)).length] (iA n) := by
    have := below_ps b (ks.length : Int) (by omega) (by omega)
    rw [hn] at this
    simpa using this
  have hat : (ks.map (kindA false))[n]? = some (kindA false k) := by rw [List.getElem?_map, List.getElem?_eq_getElem hnl, hkn]; rfl
  have hfl := hl.2 k (hkn ▸ List.getElem_mem hnl)
  have hmv : moveOf ks a b c i = moveAt k a b c i := by unfold moveOf; rw [hn, Int.toNat_natCast, List.getElem?_eq_getElem hnl, hkn]
  rw [hmv]
  have hb2 := below_ps i 26 (by decide) (by decide)
  have hb3 := below_ps b 26 (by decide) (by decide)
  have hb4 := below_ps a 7 (by decide) (by decide)
  have hb5 := below_ps c 12 (by decide) (by decide)
  have hb6 := below_ps b 30 (by decide) (by decide)
  refine Spec.of (nt := 70) (res := [.cell 10 46]) Try.func51 rfl (by kernel_rfl) rfl rfl rfl fun Sf => ?_
  (repeat refine WF ?_); refine AWP.region ?_; (repeat (first | refine WO ?_ | refine All.i fun R => ?_ | refine AllY.i fun Y => ?_)); refine AOps.nil ?_; (repeat refine WN ?_)
  (repeat refine WF ?_); refine AWP.region ?_; (repeat (first | (refine AOps.gN ?_; first | (refine AOps.g_callf ?_; first | refine AOps.c2 (h := (hb1 ..)) (k := ?_))) | refine WO ?_ | refine All.i fun V => ?_ | refine AllY.i fun Y => ?_)); refine AOps.nil ?_; (repeat refine WN ?_)
  obtain ⟨kn, kf⟩ := k
  dsimp only at hfl
  have hc1 := u8wrap (x := 97 + i % 26) (by omega) (by omega)
  have hc2 := u8wrap (x := 97 + b % 26) (by omega) (by omega)
  have hnm := nmOf_l i b
  (repeat refine WF ?_); refine AWP.region ?_; (repeat (first | (refine AOps.gN ?_; first | (refine AOps.g_callf ?_; first | refine AOps.c2 (h := (hb2 ..)) (k := ?_) | refine AOps.c2 (h := (hb3 ..)) (k := ?_)) | refine AOps.p (W.conv .i64 .u8 (by kernel_rfl) (by kernel_rfl) rfl hc1) rfl ?_ | refine AOps.p (W.conv .i64 .u8 (by kernel_rfl) (by kernel_rfl) rfl hc2) rfl ?_ | refine AOps.p (W.bytesStr (te := 5) [UInt8.ofNat (97 + i % 26).toNat, UInt8.ofNat (97 + b % 26).toNat] (by kernel_rfl) (by kernel_rfl) (by kernel_rfl) (Nat.succ_pos _) rfl hnm) rfl ?_ | refine AOps.p (W.addS (a := [110]) (b := [UInt8.ofNat (97 + i % 26).toNat, UInt8.ofNat (97 + b % 26).toNat]) (Nat.le_of_ble_eq_true rfl) rfl rfl) rfl ?_) | refine WO ?_ | refine All.i fun X => ?_ | refine AllY.i fun Y => ?_)); refine AOps.nil ?_; (repeat refine WN ?_)
  refine AWP.rs fun M => ?_
  (repeat refine WF ?_); refine AWP.region_run (by kernel_rfl) (by kernel_rfl) ?_; (repeat (first | (refine RGo.gN ?_; first | (refine RGo.g_callf ?_; first | refine RGo.c2 (h := (hb4 ..)) (k := ?_) | refine RGo.c2 (h := (hb5 ..)) (k := ?_) | refine RGo.c2 (h := (hb6 ..)) (k := ?_))) | (refine RGo.gQ ?_; first | (refine RGo.g_callf ?_; first | refine RGo.c2 (h := (hb4 ..)) (k := ?_) | refine RGo.c2 (h := (hb5 ..)) (k := ?_) | refine RGo.c2 (h := (hb6 ..)) (k := ?_))) | refine RK ?_ | refine RGo.nil (by kernel_rfl) ?_))
  have hrem : (c.tmod 9) = c.tmod 9 := rfl
  have hkfm : (kf.map fieldA).length = kf.length := List.length_map _
  (repeat refine WF ?_); refine AWP.region ?_; (repeat (first | refine WO ?_ | refine All.i fun X => ?_ | refine AllY.i fun Y => ?_)); refine AOps.nil ?_; (repeat refine WN ?_)
  obtain ⟨nm, hnmv⟩ : ∃ nm, ([110] ++ [UInt8.ofNat (97 + i % 26).toNat, UInt8.ofNat (97 + b % 26).toNat] : List UInt8) = nm := ⟨_, rfl⟩
  have hr : moveAt ⟨kn, kf⟩ a b c i = ⟨a % 7, kn, match kf[(c % kf.length).toNat]? with | some f => f.name | none => [], nm, c, ⟨nm, 1 + c % 12, b % 30 - 20⟩, ⟨nm, [⟨[113], 4, c.tmod 9⟩]⟩⟩ := by rw [← hnmv]; rfl
  rw [hr, hnmv]
  refine AWP.cond rfl (fun he => ?_) (fun he => ?_)
  · have hkl : 0 < kf.length := by have he : (0 : Int) < (kf.map fieldA).length := of_decide_eq_true he; omega
    obtain ⟨j, hj⟩ : ∃ j : Nat, c % (kf.length : Int) = j := ⟨(c % (kf.length : Int)).toNat, by have := Int.emod_nonneg c (show (kf.length : Int) ≠ 0 by omega); omega⟩
    have hjl : j < kf.length := by have := Int.emod_lt_of_pos c (show (0 : Int) < kf.length by omega); omega
    have hb7 : PS Try.prog 31 [iA c, iA (kf.map fieldA).length] (iA j) := by
      have := below_ps c (kf.length : Int) (by omega) (by omega)
      rw [hj] at this
      simpa using this
    obtain ⟨f, hf⟩ : ∃ f, kf[j] = f := ⟨_, rfl⟩
    have hat2 : (kf.map fieldA)[j]? = some (fieldA f) := by rw [List.getElem?_map, List.getElem?_eq_getElem hjl, hf]; rfl
    rw [hj, Int.toNat_natCast, List.getElem?_eq_getElem hjl, hf]
    (repeat refine WF ?_); refine AWP.region_run (by kernel_rfl) (by kernel_rfl) ?_; (repeat (first | (refine RGo.gN ?_; first | (refine RGo.g_callf ?_; first | refine RGo.c2 (h := (hb7 ..)) (k := ?_))) | (refine RGo.gQ ?_; first | (refine RGo.g_callf ?_; first | refine RGo.c2 (h := (hb7 ..)) (k := ?_))) | refine RK ?_ | refine RGo.nil (by kernel_rfl) ?_))
    (repeat refine WF ?_)
    (repeat (first | (refine AOps.gN ?_; first | (refine AOps.g_lit ?_; refine AOps.goL (fieldA ⟨[113], 4, c.tmod 9⟩) ?_) | refine AOps.p (W.rem rfl rfl (by decide)) rfl ?_) | refine WK ?_ | refine All.i fun X => ?_ | refine AllY.i fun Y => ?_))
    (refine AWP.ret ?_; (repeat (first | refine inB_r ?_ | refine andThen_r ?_)); refine retQ_r ?_)
    refine Ends.id (rs := [moveA false ⟨a % 7, kn, f.name, nm, c, ⟨nm, 1 + c % 12, b % 30 - 20⟩, ⟨nm, [⟨[113], 4, c.tmod 9⟩]⟩⟩]) rfl
  · have hkl : kf = [] := List.length_eq_zero_iff.1 (by have he : ¬ (0 : Int) < (kf.map fieldA).length := of_decide_eq_false he; omega)
    subst hkl
    (repeat (first | (refine AOps.gN ?_; first | (refine AOps.g_lit ?_; refine AOps.goL (fieldA ⟨[113], 4, c.tmod 9⟩) ?_) | refine AOps.p (W.rem rfl rfl (by decide)) rfl ?_) | refine WK ?_ | refine All.i fun X => ?_ | refine AllY.i fun Y => ?_))
    (refine AWP.ret ?_; (repeat (first | refine inB_r ?_ | refine andThen_r ?_)); refine retQ_r ?_)
    refine Ends.id (rs := [moveA false ⟨a % 7, kn, [], nm, c, ⟨nm, 1 + c % 12, b % 30 - 20⟩, ⟨nm, [⟨[113], 4, c.tmod 9⟩]⟩⟩]) rfl
set_option maxRecDepth 8000 in
set_option maxHeartbeats 1000000 in
theorem moves_ps (ks : List Kind) (l : List Int) (hk : checkErr ks = 0) (hlen : l.length * 8 ≤ 140737488351232) : PS Try.prog 16 [kindsA false false ks, intsA false l] (movesA true false (movesOf ks l 0 [])) := by
  have hlm : (l.map iA).length = l.length := List.length_map _
  refine Spec.of (nt := 59) (res := [.tmp 4]) Try.func16 rfl (by kernel_rfl) rfl rfl rfl fun Sf => ?_
  obtain ⟨r, hr⟩ : ∃ r, movesOf ks l 0 [] = r := ⟨_, rfl⟩
  rw [hr]
  (repeat (first | refine WK ?_ | refine All.i fun X => ?_ | refine AllY.i fun Y => ?_))
  refine AWP.adopt (d := 5) 46 10 rfl fun O => ?_
  refine AWP.lp4 (fun (q Y : Nat) (out : List Move) (cur : List Kind) => ⟨[(0, kindsA false false cur), (1, intsA false l), (5, .sl Y 0 out.length), (6, iA q)], (Y, .row 46 10 (out.map (moveA false))) :: Sf⟩) (fun q _ out cur => q ≤ l.length + 2 ∧ checkErr cur = 0 ∧ out.length ≤ 6 ∧ movesOf cur (l.drop q) q out = r) (fun q _ _ _ => l.length + 3 - q) 0 O [] ks ⟨Nat.zero_le _, hk, Nat.zero_le _, hr⟩ ?_
  rintro q Y out cur ⟨hq, hc, ho, hfold⟩
  have hcm : (cur.map (kindA false)).length = cur.length := List.length_map _
  have hcb := ((checkErr_iff cur).1 hc).b
  have hcl := hcb.1
  (repeat (first | refine WK ?_ | refine All.i fun X => ?_ | refine AllY.i fun Y => ?_))
  refine AWP.cond rfl (fun he => ?_) (fun he => ?_)
  · have he : ((q : Int) + 2 < (l.map iA).length ∧ (out.length : Int) < 6) ∧ (0 : Int) < (cur.map (kindA false)).length := by simpa only [Bool.and_eq_true, decide_eq_true_eq] using he
    have h : q + 2 < l.length := by omega
    have hc0 : 0 < cur.length := by omega
    have ho6 : out.length < 6 := by omega
    obtain ⟨a, ha⟩ : ∃ a, l[q] = a := ⟨_, rfl⟩
    obtain ⟨b, hb⟩ : ∃ b, l[q + 1] = b := ⟨_, rfl⟩
    obtain ⟨c, hcv⟩ : ∃ c, l[q + 2] = c := ⟨_, rfl⟩
    have hat0 : (l.map iA)[q]? = some (iA a) := by rw [List.getElem?_map, List.getElem?_eq_getElem (by omega), ha]; rfl
    have hat1 : (l.map iA)[q + 1]? = some (iA b) := by rw [List.getElem?_map, List.getElem?_eq_getElem (by omega), hb]; rfl
    have hat2 : (l.map iA)[q + 2]? = some (iA c) := by rw [List.getElem?_map, List.getElem?_eq_getElem (by omega), hcv]; rfl
    rw [List.drop_eq_getElem_cons (by omega), ha, List.drop_eq_getElem_cons (by omega), hb, List.drop_eq_getElem_cons (by omega), hcv, movesOf, if_pos ⟨ho6, hc0⟩] at hfold
    have hmv := move_ps cur a b c (q : Int) hc0 hcb
    have hml := moveOf_len cur a b c q
    obtain ⟨m, hm⟩ : ∃ m, moveOf cur a b c q = m := ⟨_, rfl⟩
    rw [hm] at hfold hmv hml
    have hkn := kinds_mps cur [m] ⟨by simp, fun x hx => by rw [List.mem_singleton.1 hx]; omega⟩
    have hko : (kindsOf cur [m]).2 = 0 → checkErr (kindsOf cur [m]).1 = 0 := fun h0 => by
      have h1 := kindsOf_one (m := m) hc
      by_cases hf : (stepOf cur m).2 = 0
      · rw [if_neg (by simp [hf])] at h1
        rw [h1]; exact stepOf_ok hf
      · rw [if_pos hf] at h1
        rw [h1] at h0; exact absurd h0 hf
    obtain ⟨kr, hkr⟩ : ∃ kr, kindsOf cur [m] = kr := ⟨_, rfl⟩
    rw [hkr] at hfold hkn hko
    (repeat refine WF ?_)
    refine AWP.rs fun V => ?_
    (repeat refine WF ?_); refine AWP.region_run (by kernel_rfl) (by kernel_rfl) ?_; (repeat (first | (refine RGo.gN ?_; first | (refine RGo.g_callf ?_; first | refine RGo.c5 (h := (hmv ..)) (k := ?_))) | (refine RGo.gQ ?_; first | (refine RGo.g_callf ?_; first | refine RGo.c5 (h := (hmv ..)) (k := ?_))) | refine RK ?_ | refine RGo.nil (by kernel_rfl) ?_))
    (repeat (first | (refine AOps.gN ?_; first | (refine AOps.g_callf ?_; first | refine AOps.c2 (h := (hkn ..)) (k := ?_)) | (refine AOps.g_lit ?_; refine AOps.goL (moveA false m) ?_)) | refine WK ?_ | refine All.i fun X => ?_ | refine AllY.i fun Y => ?_))
    refine AWP.cond rfl (fun hg => ?_) (fun hg => ?_)
    · have hg : kr.2 = 0 := by simpa using hg
      rw [if_pos hg] at hfold
      have hol : (out.map (moveA false)).length = out.length := List.length_map _
      have hb2 : (out.length + [moveA false m].length) * 136 ≤ 140737488355328 := by simp; omega
      (repeat (first | (refine AOps.gN ?_; first | (refine AOps.g_lit ?_; refine AOps.goL (moveA false m) ?_)) | refine WK ?_ | refine All.i fun X => ?_ | refine AllY.i fun Y => ?_))
      refine lp_next4 (q + 3) Y (out ++ [m]) kr.1 ⟨by omega, hko hg, by simp; omega, hfold⟩ (h0 := by rw [List.map_append, List.length_append]; exact ⟨by exact Lk.f, by exact Sub.f⟩)
    · have hg : kr.2 ≠ 0 := by simpa using hg
      rw [if_neg hg] at hfold
      (repeat (first | refine WK ?_ | refine All.i fun X => ?_ | refine AllY.i fun Y => ?_))
      refine lp_next4 (q + 3) Y out cur ⟨by omega, hc, ho, hfold⟩
  · have h : movesOf cur (l.drop q) q out = out := by
      have he : ¬ (((q : Int) + 2 < (l.map iA).length ∧ (out.length : Int) < 6) ∧ (0 : Int) < (cur.map (kindA false)).length) := fun h => by
        have := he
        rw [decide_eq_true h.1.1, decide_eq_true h.1.2, decide_eq_true h.2] at this
        cases this
      by_cases h2 : q + 2 < l.length
      · rw [List.drop_eq_getElem_cons (by omega), List.drop_eq_getElem_cons (by omega), List.drop_eq_getElem_cons (by omega), movesOf, if_neg (fun h => he (by omega))]
      · have h3 : (l.drop q).length ≤ 2 := by rw [List.length_drop]; omega
        match hd : l.drop q with
        | [] => rfl
        | [_] => rfl
        | [_, _] => rfl
        | _ :: _ :: _ :: _ => rw [hd] at h3; simp at h3
    rw [h] at hfold
    subst hfold
    (repeat (first | refine WK ?_ | refine All.i fun X => ?_ | refine AllY.i fun Y => ?_))
    (refine AWP.ret ?_; (repeat (first | refine inB_r ?_ | refine andThen_r ?_)); refine retQ_r ?_)
    exact ⟨[.sl Y 0 out.length], [.lst true 46 10 (out.map (moveA false))], _, [], .cons (.tmp rfl) rfl .nil, .cons (.cell (.sl (p := 0) .here (by simp))) .nil, by exact Sub.f, rfl, rfl⟩
end Go.Proofs.Ytfkppbkipbbmaaa

namespace Go.Proofs.Ytfkppbkipbbmaaa
set_option linter.unusedVariables false
end Go.Proofs.Ytfkppbkipbbmaaa

namespace Go.Proofs.Ytfkppbkipbbmaaa
set_option linter.unusedVariables false
end Go.Proofs.Ytfkppbkipbbmaaa

namespace Go.Proofs.Ytfkppbkipbbmaaa
set_option linter.unusedVariables false
end Go.Proofs.Ytfkppbkipbbmaaa

namespace Go.Proofs.Ytfkppbkipbbmaaa
set_option linter.unusedVariables false
end Go.Proofs.Ytfkppbkipbbmaaa

namespace Go.Proofs.Ytfkppbkipbbmaaa
set_option linter.unusedVariables false
end Go.Proofs.Ytfkppbkipbbmaaa

namespace Go.Proofs.Ytfkppbkipbbmaaa
set_option linter.unusedVariables false
theorem dropF {α : Type} {f : α → List Int} {l : List α} {i : Nat} {x : α} (h : i < l.length) (e : l[i] = x) : (l.drop i).flatMap f = f x ++ (l.drop (i + 1)).flatMap f := by
  rw [List.drop_eq_getElem_cons h, e, List.flatMap_cons]
end Go.Proofs.Ytfkppbkipbbmaaa

namespace Go.Proofs.Ytfkppbkipbbmaaa
set_option linter.unusedVariables false
theorem base_wdL : WdL baseWd := by
  refine ⟨⟨by decide, ?_⟩, by decide, ⟨by decide, ?_⟩⟩
  · intro k hk
    rw [List.mem_singleton.1 hk]; decide
  · intro it hit
    rw [List.mem_singleton.1 hit]
    refine ⟨by decide, fun c hc => ?_⟩
    rw [List.mem_singleton.1 hc]; decide
end Go.Proofs.Ytfkppbkipbbmaaa

namespace Go.Proofs.Ytfkppbkipbbmaaa
set_option linter.unusedVariables false
def lifeM : Move := ⟨1, [108, 105, 102, 101], [], [], 0, ⟨[], 0, 0⟩, ⟨[], []⟩⟩
theorem life_world : worldOf baseWd [lifeM] = (⟨[], [0], [⟨⟨0, 0⟩, []⟩]⟩, 0) := by decide
theorem life_dn : Dns [wdA false baseWd, .lst false 46 10 [.agg [iA 1, sA [108, 105, 102, 101], sA [], sA [], iA 0, sA [], iA 0, iA 0, sA [], .prim (.slice none 0 0)]]] [wdA false baseWd, movesA false false [lifeM]] :=
  .cons .same (.cons (.lst (.cons (.agg (.cons .same (.cons .same (.cons .same (.cons .same (.cons .same (.cons .same (.cons .same (.cons .same (.cons .same (.cons .nil .nil))))))))))) .nil)) .nil)
set_option maxRecDepth 8000 in
theorem dropped_ps : PS Try.prog 14 [] (bA true) := by
  have hw := world_mps baseWd [lifeM] base_wdL ⟨by simp, fun m hm => by rw [List.mem_singleton.1 hm]; decide⟩
  rw [life_world] at hw
  have hw2 := hw.argD life_dn
  refine Spec.of (nt := 24) (res := [.tmp 0]) Try.func14 rfl (by kernel_rfl) rfl rfl rfl fun Sf => ?_
  (repeat (first | (refine AOps.gN ?_; first | (refine AOps.g_callf ?_; first | refine AOps.c0 (h := (base_ps ..)) (k := ?_) | refine AOps.c2 (h := (hw2 ..)) (k := ?_)) | (refine AOps.g_lit ?_; refine AOps.goL (.agg [iA 1, sA [108, 105, 102, 101], sA [], sA [], iA 0, sA [], iA 0, iA 0, sA [], .prim (.slice none 0 0)]) ?_)) | refine WK ?_ | refine All.i fun V => ?_ | refine AllY.i fun Y => ?_))
  (refine AWP.ret ?_; (repeat (first | refine inB_r ?_ | refine andThen_r ?_)); refine retQ_r ?_); refine Ends.ps ?_
  rfl
end Go.Proofs.Ytfkppbkipbbmaaa

namespace Go.Proofs.Ytfkppbkipbbmaaa
set_option linter.unusedVariables false
theorem equalFuncK_ps (a b : List Kind) (f : FuncId) (cap : List AV) (p : Kind → Kind → Bool) (hs : st1s cap = true) (hl : a.length ≤ 4611686018427387904) (hf : ∀ x ∈ a, ∀ y ∈ b, PS Try.prog f ((kindA false) x :: (kindA false) y :: cap) (bA (p x y))) :
    PS Try.prog 62 [.lst false 44 2 (a.map (kindA false)), .lst false 44 2 (b.map (kindA false)), .fn f cap] (bA (eqF p a b)) := by
  refine Spec.of (nt := 32) (res := [.tmp 6]) Try.func62 rfl (by kernel_rfl) rfl rfl rfl fun Sf => ?_
  (repeat (first | refine WK ?_ | refine All.i fun X => ?_ | refine AllY.i fun Y => ?_))
  refine AWP.cond rfl (fun hb => ?_) (fun hb => ?_)
  · have hb : a.length ≠ b.length := by simp at hb; omega
    (repeat (first | refine WK ?_ | refine All.i fun X => ?_ | refine AllY.i fun Y => ?_))
    (refine AWP.ret ?_; (repeat (first | refine inB_r ?_ | refine andThen_r ?_)); refine retQ_r ?_); refine Ends.ps ?_
    rw [eqF_len hb]
  · have hb : a.length = b.length := by simp at hb; omega
    (repeat (first | refine WK ?_ | refine All.i fun X => ?_ | refine AllY.i fun Y => ?_))
    refine AWP.lp (fun i : Nat => ⟨[(0, .lst false 44 2 (a.map (kindA false))), (1, .lst false 44 2 (b.map (kindA false))), (2, .fn f cap), (15, .lst false 44 2 (a.map (kindA false))), (16, iA (a.map (kindA false)).length), (17, iA i)], Sf⟩) (fun i => i ≤ a.length ∧ ∀ j (h : j < a.length), j < i → p a[j] (b[j]'(by omega)) = true) (fun i => a.length - i) 0 ⟨Nat.zero_le _, fun j h hj => absurd hj (by omega)⟩ ?_
    rintro i ⟨hi, he⟩
    (repeat (first | refine WK ?_ | refine All.i fun X => ?_ | refine AllY.i fun Y => ?_))
    refine AWP.cond rfl (fun hc => ?_) (fun hc => ?_)
    · have h : i < a.length := by simpa using hc
      have h' : i < b.length := by omega
      (repeat (first | (refine AOps.gN ?_; first | (refine AOps.g_callv ?_; first | refine AOps.k2 (h := (hf _ (List.getElem_mem h) _ (List.getElem_mem h'))) (k := ?_))) | refine WK ?_ | refine All.i fun X => ?_ | refine AllY.i fun Y => ?_))
      refine AWP.cond rfl (fun hd => ?_) (fun hd => ?_)
      · have hd : p a[i] b[i] = false := by simpa using hd
        (repeat (first | refine WK ?_ | refine All.i fun X => ?_ | refine AllY.i fun Y => ?_))
        (refine AWP.ret ?_; (repeat (first | refine inB_r ?_ | refine andThen_r ?_)); refine retQ_r ?_); refine Ends.ps ?_
        rw [eqF_no hb h hd]
      · have hd : p a[i] b[i] = true := by simpa using hd
        (repeat (first | refine WK ?_ | refine All.i fun X => ?_ | refine AllY.i fun Y => ?_))
        refine lp_next (i + 1) ⟨h, fun j h1 h2 => ?_⟩
        by_cases e : j = i
        · subst e; exact hd
        · exact he j h1 (by omega)
    · have h : ¬ i < a.length := by simpa using hc
      (repeat (first | refine WK ?_ | refine All.i fun X => ?_ | refine AllY.i fun Y => ?_))
      (refine AWP.ret ?_; (repeat (first | refine inB_r ?_ | refine andThen_r ?_)); refine retQ_r ?_); refine Ends.ps ?_
      rw [eqF_yes hb fun j hj => he j hj (by omega)]
end Go.Proofs.Ytfkppbkipbbmaaa

namespace Go.Proofs.Ytfkppbkipbbmaaa
set_option linter.unusedVariables false
theorem sameCompsT1_ps (x y : Comp) (hl : x.vals.length ≤ 1099511627776) : PS Try.prog 96 [compA false x, compA false y] (bA (decide (x = y))) := by
  have heq := equalI_ps x.vals y.vals hl
  rw [← compEq]
  refine Spec.of (nt := 17) (res := [.tmp 4]) Try.func96 rfl (by kernel_rfl) rfl rfl rfl fun Sf => ?_
  (repeat refine WF ?_); refine AWP.region ?_; (repeat (first | (refine AOps.gN ?_; first | (refine AOps.g_box ?_; refine AOps.goB ?_)) | refine WO ?_ | refine All.i fun X => ?_ | refine AllY.i fun Y => ?_)); refine AOps.nil ?_; (repeat refine WN ?_)
  rcases Bool.eq_false_or_eq_true (decide (x.kind = y.kind)) with g | g
  · rw [g]
    (repeat (first | (refine AOps.gN ?_; first | (refine AOps.g_callf ?_; first | refine AOps.c2 (h := (heq ..)) (k := ?_))) | refine WK ?_ | refine All.i fun X => ?_ | refine AllY.i fun Y => ?_))
    (refine AWP.ret ?_; (repeat (first | refine inB_r ?_ | refine andThen_r ?_)); refine retQ_r ?_); refine Ends.ps ?_
    rfl
  · rw [g]
    (repeat (first | refine WK ?_ | refine All.i fun X => ?_ | refine AllY.i fun Y => ?_))
    (refine AWP.ret ?_; (repeat (first | refine inB_r ?_ | refine andThen_r ?_)); refine retQ_r ?_); refine Ends.ps ?_
    rfl
theorem sameCompsT_ps (a b : List Comp) (hl : CsL a) : PS Try.prog 58 [compsA false false a, compsA false false b] (bA (decide (a = b))) := by
  have h := equalFuncC_ps a b 96 [] (fun x y => decide (x = y)) rfl (by have := hl.1; omega) (fun x hx y _ => sameCompsT1_ps x y (hl.2 x hx))
  rw [eqF_eq fun _ _ _ _ => rfl] at h
  refine Spec.of (nt := 8) (res := [.tmp 4]) Try.func58 rfl (by kernel_rfl) rfl rfl rfl fun Sf => ?_
  (repeat (first | (refine AOps.gN ?_; first | (refine AOps.g_callf ?_; first | refine AOps.c3 (h := (h ..)) (k := ?_))) | refine WK ?_ | refine All.i fun X => ?_ | refine AllY.i fun Y => ?_))
  (refine AWP.ret ?_; (repeat (first | refine inB_r ?_ | refine andThen_r ?_)); refine retQ_r ?_); refine Ends.ps ?_
  rfl
theorem sameItemsT1_ps (x y : Item) (hl : CsL x.comps) : PS Try.prog 57 [itemA false x, itemA false y] (bA (decide (x = y))) := by
  have heq := sameCompsT_ps x.comps y.comps hl
  rw [← itemEq]
  refine Spec.of (nt := 17) (res := [.tmp 4]) Try.func57 rfl (by kernel_rfl) rfl rfl rfl fun Sf => ?_
  (repeat refine WF ?_); refine AWP.region ?_; (repeat (first | (refine AOps.gN ?_; first | (refine AOps.g_box ?_; refine AOps.goB ?_)) | refine WO ?_ | refine All.i fun X => ?_ | refine AllY.i fun Y => ?_)); refine AOps.nil ?_; (repeat refine WN ?_)
  have hE := entEql x.ent.n x.ent.gen y.ent.n y.ent.gen
  rw [show (decide (x.ent.n = y.ent.n) && decide (x.ent.gen = y.ent.gen)) = sameE x.ent y.ent from rfl] at hE
  cases hb : sameE x.ent y.ent
  · rw [hb] at hE
    (repeat (first | (refine AOps.gN ?_; first | refine AOps.p (W.eqP _ _ (by kernel_rfl) hE rfl rfl) rfl ?_) | refine WK ?_ | refine All.i fun X => ?_ | refine AllY.i fun Y => ?_))
    (refine AWP.ret ?_; (repeat (first | refine inB_r ?_ | refine andThen_r ?_)); refine retQ_r ?_); refine Ends.ps ?_
    rfl
  · rw [hb] at hE
    (repeat (first | (refine AOps.gN ?_; first | (refine AOps.g_callf ?_; first | refine AOps.c2 (h := (heq ..)) (k := ?_)) | refine AOps.p (W.eqP _ _ (by kernel_rfl) hE rfl rfl) rfl ?_) | refine WK ?_ | refine All.i fun X => ?_ | refine AllY.i fun Y => ?_))
    (refine AWP.ret ?_; (repeat (first | refine inB_r ?_ | refine andThen_r ?_)); refine retQ_r ?_); refine Ends.ps ?_
    rfl
theorem sameItemsT_ps (a b : List Item) (hl : ItL a) : PS Try.prog 19 [itemsA false false a, itemsA false false b] (bA (decide (a = b))) := by
  have h := equalFuncT_ps a b 57 [] (fun x y => decide (x = y)) rfl (by have := hl.1; omega) (fun x hx y _ => sameItemsT1_ps x y (hl.2 x hx))
  rw [eqF_eq fun _ _ _ _ => rfl] at h
  refine Spec.of (nt := 8) (res := [.tmp 4]) Try.func19 rfl (by kernel_rfl) rfl rfl rfl fun Sf => ?_
  (repeat (first | (refine AOps.gN ?_; first | (refine AOps.g_callf ?_; first | refine AOps.c3 (h := (h ..)) (k := ?_))) | refine WK ?_ | refine All.i fun X => ?_ | refine AllY.i fun Y => ?_))
  (refine AWP.ret ?_; (repeat (first | refine inB_r ?_ | refine andThen_r ?_)); refine retQ_r ?_); refine Ends.ps ?_
  rfl
theorem equalF_ps (a b : List Field) (hl : a.length ≤ 1099511627776) : PS Try.prog 64 [fieldsA false a, fieldsA false b] (bA (decide (a = b))) := by
  refine Spec.of (nt := 26) (res := [.tmp 4]) Try.func64 rfl (by kernel_rfl) rfl rfl rfl fun Sf => ?_
  (repeat (first | refine WK ?_ | refine All.i fun X => ?_ | refine AllY.i fun Y => ?_))
  refine AWP.cond rfl (fun hb => ?_) (fun hb => ?_)
  · have hb : a.length ≠ b.length := by simp at hb; omega
    (repeat (first | refine WK ?_ | refine All.i fun X => ?_ | refine AllY.i fun Y => ?_))
    (refine AWP.ret ?_; (repeat (first | refine inB_r ?_ | refine andThen_r ?_)); refine retQ_r ?_); refine Ends.ps ?_
    rw [decide_eq_false fun e => hb (by rw [e])]
  · have hb : a.length = b.length := by simp at hb; omega
    (repeat (first | refine WK ?_ | refine All.i fun X => ?_ | refine AllY.i fun Y => ?_))
    refine AWP.lp (fun i : Nat => ⟨[(0, fieldsA false a), (1, fieldsA false b), (12, iA (a.map fieldA).length), (13, iA i)], Sf⟩) (fun i => i ≤ a.length ∧ ∀ j (h : j < a.length), j < i → a[j] = b[j]'(by omega)) (fun i => a.length - i) 0 ⟨Nat.zero_le _, fun j h hj => absurd hj (by omega)⟩ ?_
    rintro i ⟨hi, he⟩
    (repeat (first | refine WK ?_ | refine All.i fun X => ?_ | refine AllY.i fun Y => ?_))
    refine AWP.cond rfl (fun hc => ?_) (fun hc => ?_)
    · have h : i < a.length := by simpa using hc
      have h' : i < b.length := by omega
      obtain ⟨f, hf⟩ : ∃ f, a[i] = f := ⟨_, rfl⟩
      obtain ⟨g, hg⟩ : ∃ g, b[i] = g := ⟨_, rfl⟩
      have haf : (a.map fieldA)[i]? = some (fieldA f) := by rw [List.getElem?_map, List.getElem?_eq_getElem h, hf]; rfl
      have hag : (b.map fieldA)[i]? = some (fieldA g) := by rw [List.getElem?_map, List.getElem?_eq_getElem h', hg]; rfl
      (repeat (first | refine WK ?_ | refine All.i fun X => ?_ | refine AllY.i fun Y => ?_))
      (repeat refine WF ?_); refine AWP.region_run (by kernel_rfl) (by kernel_rfl) ?_; (repeat (first | (refine RGo.gN ?_; first | refine RGo.p (W.neP _ _ (by kernel_rfl) (fieldNeq f g) rfl rfl) rfl ?_) | (refine RGo.gQ ?_; first | refine RGo.p (W.neP _ _ (by kernel_rfl) (fieldNeq f g) rfl rfl) rfl ?_) | refine RK ?_ | refine RGo.nil (by kernel_rfl) ?_))
      (repeat (first | refine WK ?_ | refine All.i fun X => ?_ | refine AllY.i fun Y => ?_))
      refine AWP.cond rfl (fun hd => ?_) (fun hd => ?_)
      · have hd : f ≠ g := by simpa using hd
        (repeat (first | refine WK ?_ | refine All.i fun X => ?_ | refine AllY.i fun Y => ?_))
        (refine AWP.ret ?_; (repeat (first | refine inB_r ?_ | refine andThen_r ?_)); refine retQ_r ?_); refine Ends.ps ?_
        rw [decide_eq_false fun e => hd (by subst e; rw [← hf, ← hg])]
      · have hd : f = g := by simpa using hd
        (repeat (first | refine WK ?_ | refine All.i fun X => ?_ | refine AllY.i fun Y => ?_))
        refine lp_next (i + 1) ⟨h, fun j h1 h2 => ?_⟩
        by_cases e : j = i
        · subst e; rw [hf, hg, hd]
        · exact he j h1 (by omega)
    · have h : ¬ i < a.length := by simpa using hc
      (repeat (first | refine WK ?_ | refine All.i fun X => ?_ | refine AllY.i fun Y => ?_))
      (refine AWP.ret ?_; (repeat (first | refine inB_r ?_ | refine andThen_r ?_)); refine retQ_r ?_); refine Ends.ps ?_
      rw [decide_eq_true (List.ext_getElem hb fun j h1 h2 => he j h1 (by omega))]
theorem kindEq (x y : Kind) : (decide (x.name = y.name) && decide (x.fields = y.fields)) = decide (x = y) := by
  obtain ⟨k, v⟩ := x
  obtain ⟨k', v'⟩ := y
  rw [Bool.eq_iff_iff]
  simp
theorem sameKindsT1_ps (x y : Kind) (hl : x.fields.length ≤ 1099511627776) : PS Try.prog 63 [kindA false x, kindA false y] (bA (decide (x = y))) := by
  have heq := equalF_ps x.fields y.fields hl
  rw [← kindEq]
  refine Spec.of (nt := 17) (res := [.tmp 4]) Try.func63 rfl (by kernel_rfl) rfl rfl rfl fun Sf => ?_
  (repeat refine WF ?_); refine AWP.region ?_; (repeat (first | (refine AOps.gN ?_; first | (refine AOps.g_box ?_; refine AOps.goB ?_)) | refine WO ?_ | refine All.i fun X => ?_ | refine AllY.i fun Y => ?_)); refine AOps.nil ?_; (repeat refine WN ?_)
  rcases Bool.eq_false_or_eq_true (decide (x.name = y.name)) with g | g
  · rw [g]
    (repeat (first | (refine AOps.gN ?_; first | (refine AOps.g_callf ?_; first | refine AOps.c2 (h := (heq ..)) (k := ?_))) | refine WK ?_ | refine All.i fun X => ?_ | refine AllY.i fun Y => ?_))
    (refine AWP.ret ?_; (repeat (first | refine inB_r ?_ | refine andThen_r ?_)); refine retQ_r ?_); refine Ends.ps ?_
    rfl
  · rw [g]
    (repeat (first | refine WK ?_ | refine All.i fun X => ?_ | refine AllY.i fun Y => ?_))
    (refine AWP.ret ?_; (repeat (first | refine inB_r ?_ | refine andThen_r ?_)); refine retQ_r ?_); refine Ends.ps ?_
    rfl
theorem sameKindsT_ps (a b : List Kind) (hl : KsL a) : PS Try.prog 24 [kindsA false false a, kindsA false false b] (bA (decide (a = b))) := by
  have h := equalFuncK_ps a b 63 [] (fun x y => decide (x = y)) rfl (by have := hl.1; omega) (fun x hx y _ => sameKindsT1_ps x y (hl.2 x hx))
  rw [eqF_eq fun _ _ _ _ => rfl] at h
  refine Spec.of (nt := 8) (res := [.tmp 4]) Try.func24 rfl (by kernel_rfl) rfl rfl rfl fun Sf => ?_
  (repeat (first | (refine AOps.gN ?_; first | (refine AOps.g_callf ?_; first | refine AOps.c3 (h := (h ..)) (k := ?_))) | refine WK ?_ | refine All.i fun X => ?_ | refine AllY.i fun Y => ?_))
  (refine AWP.ret ?_; (repeat (first | refine inB_r ?_ | refine andThen_r ?_)); refine retQ_r ?_); refine Ends.ps ?_
  rfl
set_option maxRecDepth 4000 in
theorem sameT_ps (a b : Wd) (hl : WdL a) : PS Try.prog 23 [wdA false a, wdA false b] (bA (decide (a = b))) := by
  have h1 := sameKindsT_ps a.kinds b.kinds hl.ks
  have h2 := equalI_ps a.gens b.gens hl.gens
  have h3 := sameItemsT_ps a.items b.items hl.items
  rw [← wdEq]
  refine Spec.of (nt := 24) (res := [.tmp 4]) Try.func23 rfl (by kernel_rfl) rfl rfl rfl fun Sf => ?_
  (repeat refine WF ?_); refine AWP.region ?_; (repeat (first | (refine AOps.gN ?_; first | (refine AOps.g_box ?_; refine AOps.goB ?_)) | refine WO ?_ | refine All.i fun X => ?_ | refine AllY.i fun Y => ?_)); refine AOps.nil ?_; (repeat refine WN ?_)
  obtain ⟨b1, e1⟩ : ∃ b1, decide (a.kinds = b.kinds) = b1 := ⟨_, rfl⟩
  obtain ⟨b2, e2⟩ : ∃ b2, decide (a.gens = b.gens) = b2 := ⟨_, rfl⟩
  rw [e1] at h1 ⊢
  rw [e2] at h2 ⊢
  cases b1
  · (repeat (first | (refine AOps.gN ?_; first | (refine AOps.g_callf ?_; first | refine AOps.c2 (h := (h1 ..)) (k := ?_))) | refine WK ?_ | refine All.i fun X => ?_ | refine AllY.i fun Y => ?_))
    (refine AWP.ret ?_; (repeat (first | refine inB_r ?_ | refine andThen_r ?_)); refine retQ_r ?_); refine Ends.ps ?_
    rfl
  · cases b2
    · (repeat (first | (refine AOps.gN ?_; first | (refine AOps.g_callf ?_; first | refine AOps.c2 (h := (h1 ..)) (k := ?_) | refine AOps.c2 (h := (h2 ..)) (k := ?_))) | refine WK ?_ | refine All.i fun X => ?_ | refine AllY.i fun Y => ?_))
      (refine AWP.ret ?_; (repeat (first | refine inB_r ?_ | refine andThen_r ?_)); refine retQ_r ?_); refine Ends.ps ?_
      rfl
    · (repeat (first | (refine AOps.gN ?_; first | (refine AOps.g_callf ?_; first | refine AOps.c2 (h := (h1 ..)) (k := ?_) | refine AOps.c2 (h := (h2 ..)) (k := ?_) | refine AOps.c2 (h := (h3 ..)) (k := ?_))) | refine WK ?_ | refine All.i fun X => ?_ | refine AllY.i fun Y => ?_))
      (refine AWP.ret ?_; (repeat (first | refine inB_r ?_ | refine andThen_r ?_)); refine retQ_r ?_); refine Ends.ps ?_
      rfl
end Go.Proofs.Ytfkppbkipbbmaaa

namespace Go.Proofs.Ytfkppbkipbbmaaa
set_option linter.unusedVariables false
theorem growNilM_ps (n : Nat) (hn : n * 136 ≤ 140737488355328) : PS Try.prog 59 [.prim (.slice none 0 0), iA n] (.lst true 46 10 []) := by
  refine Spec.of (nt := 27) (res := [.tmp 4]) Try.func59 rfl (by kernel_rfl) rfl rfl rfl fun Sf => ?_
  (repeat (first | refine WK ?_ | refine All.i fun X => ?_ | refine AllY.i fun Y => ?_))
  refine AWP.cond_f rfl (decide_eq_false (by omega)) ?_
  (repeat (first | (refine AOps.gN ?_; first | refine AOps.p (W.capN rfl) rfl ?_) | refine WK ?_ | refine All.i fun X => ?_ | refine AllY.i fun Y => ?_))
  refine AWP.cond rfl (fun hc => ?_) (fun hc => ?_)
  · have hc : 0 < n := by rw [decide_eq_true_eq] at hc; omega
    (repeat (first | (refine AOps.gN ?_; first | refine AOps.p (W.capN rfl) rfl ?_ | refine AOps.p (W.sliceN rfl rfl) rfl ?_ | (refine AOps.g_app2 ?_; refine AOps.appzN (n := n) (fun Y => ?_) hc hn (hq := by omega)) | refine AOps.p (W.hi (a := 0) rfl rfl (by exact At.f) rfl (by omega)) rfl ?_) | refine WK ?_ | refine All.i fun X => ?_ | refine AllY.i fun Y => ?_))
    refine AWP.shrink (X := Y) 0 ?_
    (refine AWP.ret ?_; (repeat (first | refine inB_r ?_ | refine andThen_r ?_)); refine retQ_r ?_)
    exact ⟨[.sl Y 0 0], [.lst true 46 10 []], _, [], .cons (.tmp rfl) rfl .nil, .cons (.cell (.sl (p := 0) .here rfl)) .nil, by exact Sub.f, rfl, rfl⟩
  · (repeat (first | refine WK ?_ | refine All.i fun X => ?_ | refine AllY.i fun Y => ?_))
    (refine AWP.ret ?_; (repeat (first | refine inB_r ?_ | refine andThen_r ?_)); refine retQ_r ?_)
    exact ⟨[.prim (.slice none 0 0)], [.lst true 46 10 []], _, [], .cons (.tmp rfl) rfl .nil, .cons (.cell .nil) .nil, by exact Sub.f, rfl, rfl⟩
def lenToM (ls : List (List Move)) (i : Nat) : Nat := ((ls.take i).flatten).length
theorem lenToM_succ {ls : List (List Move)} {i : Nat} (h : i < ls.length) : lenToM ls (i + 1) = lenToM ls i + ls[i].length := by
  unfold lenToM
  rw [List.take_succ_eq_append_getElem h, List.flatten_append, List.length_append]
  simp
theorem lenToM_le (ls : List (List Move)) (i : Nat) : lenToM ls i ≤ ls.flatten.length := by
  unfold lenToM
  have h : ((ls.take i).flatten ++ (ls.drop i).flatten) = ls.flatten := by rw [← List.flatten_append, List.take_append_drop]
  rw [← h, List.length_append]
  omega
theorem concatM_ps (ls : List (List Move)) (hl : ls.length ≤ 4611686018427387903) (hb : ls.flatten.length * 136 ≤ 140737488355328) : PS Try.prog 21 [.lst false 38 1 (ls.map fun l => .lst false 46 10 (l.map (moveA false)))] (.lst true 46 10 (ls.flatten.map (moveA false))) := by
  refine Spec.of (nt := 36) (res := [.tmp 2]) Try.func21 rfl (by kernel_rfl) rfl rfl rfl fun Sf => ?_
  have hle := lenToM_le ls
  (repeat (first | refine WK ?_ | refine All.i fun X => ?_ | refine AllY.i fun Y => ?_))
  refine AWP.lp2 (fun (i : Nat) (s : Int) => ⟨[(0, .lst false 38 1 (ls.map fun l => .lst false 46 10 (l.map (moveA false)))), (3, iA s), (9, .lst false 38 1 (ls.map fun l => .lst false 46 10 (l.map (moveA false)))), (10, iA (ls.map fun l => AV.lst false 46 10 (l.map (moveA false))).length), (11, iA i)], Sf⟩) (fun i s => i ≤ ls.length ∧ s = lenToM ls i) (fun i _ => ls.length - i) 0 0 ⟨Nat.zero_le _, rfl⟩ ?_
  rintro i s ⟨hi, hs⟩
  have h0 := hle i
  (repeat (first | refine WK ?_ | refine All.i fun X => ?_ | refine AllY.i fun Y => ?_))
  refine AWP.cond rfl (fun hc => ?_) (fun hc => ?_)
  · have h : i < ls.length := by rw [decide_eq_true_eq, List.length_map] at hc; omega
    have hs1 := lenToM_succ h
    have h1 := hle (i + 1)
    have hml : (ls[i].map (moveA false)).length = ls[i].length := List.length_map _
    (repeat (first | refine WK ?_ | refine All.i fun X => ?_ | refine AllY.i fun Y => ?_))
    refine AWP.cond_f rfl (decide_eq_false (by omega)) ?_
    (repeat (first | refine WK ?_ | refine All.i fun X => ?_ | refine AllY.i fun Y => ?_))
    exact lp_next2 (i + 1) (s + (ls[i].map (moveA false)).length) ⟨h, by omega⟩
  · have h : i = ls.length := by rw [decide_eq_false_iff_not, List.length_map] at hc; omega
    subst h
    have hfull : lenToM ls ls.length = ls.flatten.length := by unfold lenToM; rw [List.take_length]
    subst hs
    have hg := growNilM_ps (lenToM ls ls.length) (by rw [hfull]; exact hb)
    (repeat (first | (refine AOps.gN ?_; first | (refine AOps.g_callf ?_; first | refine AOps.t2 (h := hg) fun Y => ?_)) | refine WK ?_ | refine All.i fun X => ?_ | refine AllY.i fun Y => ?_))
    refine AWP.lp4 (fun (i Y m : Nat) (L : List AV) => ⟨[(6, .sl Y 0 m), (25, .lst false 38 1 (ls.map fun l => .lst false 46 10 (l.map (moveA false)))), (26, iA (ls.map fun l => AV.lst false 46 10 (l.map (moveA false))).length), (27, iA i)], (Y, .row 46 10 L) :: Sf⟩) (fun i _ m L => i ≤ ls.length ∧ m = L.length ∧ L = ((ls.take i).flatten).map (moveA false)) (fun i _ _ _ => ls.length - i) 0 Y 0 [] ⟨Nat.zero_le _, rfl, rfl⟩ ?_
    rintro i Y m L ⟨hi, hm, hL⟩
    have hLl : L.length = lenToM ls i := by rw [hL, List.length_map]; rfl
    (repeat (first | refine WK ?_ | refine All.i fun X => ?_ | refine AllY.i fun Y => ?_))
    refine AWP.cond rfl (fun hd => ?_) (fun hd => ?_)
    · have h : i < ls.length := by rw [decide_eq_true_eq, List.length_map] at hd; omega
      have hs1 := lenToM_succ h
      have h1 := hle (i + 1)
      have hml : (ls[i].map (moveA false)).length = ls[i].length := List.length_map _
      have hbd : (m + (ls[i].map (moveA false)).length) * 136 ≤ 140737488355328 := by omega
      (repeat (first | refine WK ?_ | refine All.i fun X => ?_ | refine AllY.i fun Y => ?_))
      refine lp_next4 (i + 1) Y _ _ ⟨h, ?_, ?_⟩
      · rw [List.length_append, hm]
      · rw [List.take_succ_eq_append_getElem h, List.flatten_append, List.map_append, ← hL]; simp
    · have h : i = ls.length := by rw [decide_eq_false_iff_not, List.length_map] at hd; omega
      subst h
      rw [List.take_length] at hL
      subst hL
      (repeat (first | refine WK ?_ | refine All.i fun X => ?_ | refine AllY.i fun Y => ?_))
      (refine AWP.ret ?_; (repeat (first | refine inB_r ?_ | refine andThen_r ?_)); refine retQ_r ?_)
      exact ⟨[.sl Y 0 m], [.lst true 46 10 (ls.flatten.map (moveA false))], _, [], .cons (.tmp rfl) rfl .nil, .cons (.cell (.sl (p := 0) .here hm)) .nil, by exact Sub.f, rfl, rfl⟩
end Go.Proofs.Ytfkppbkipbbmaaa

namespace Go.Proofs.Ytfkppbkipbbmaaa
set_option linter.unusedVariables false
theorem kindsFold_app : ∀ (a b : List Move) (ks : List Kind), (kindsFold ks a).2 = 0 → kindsFold ks (a ++ b) = kindsFold (kindsFold ks a).1 b
  | [], b, ks, _ => rfl
  | m :: a, b, ks, h => by
    obtain ⟨h1, h2⟩ := kindsFold_cons h
    rw [h2] at h ⊢
    rw [List.cons_append, kindsFold, if_neg (by simp [h1])]
    exact kindsFold_app a b _ h
theorem kindsOf_ok {ks : List Kind} {ms : List Move} (hk : checkErr ks = 0) (hl : ms.length ≤ 100) : kindsOf ks ms = kindsFold ks ms := by
  unfold kindsOf
  rw [if_neg (by simp [hk]), if_neg (by omega)]
theorem worldOf_ok {w : Wd} {ms : List Move} (hw : WdOK w) (hl : ms.length ≤ 100) (h : (kindsFold w.kinds ms).2 = 0) : worldOf w ms = (ms.foldl worldStep w, 0) := by
  unfold worldOf
  rw [if_neg (by simp [(wdErr_iff w).2 hw]), kindsOf_ok hw.ks hl, if_neg (by simp [h])]
theorem worldFold_gens : ∀ (ms : List Move) (w : Wd), (ms.foldl worldStep w).gens = w.gens ∧ (ms.foldl worldStep w).items.length = w.items.length
  | [], w => ⟨rfl, rfl⟩
  | m :: ms, w => by
    obtain ⟨h1, h2⟩ := worldFold_gens ms (worldStep w m)
    exact ⟨h1, h2.trans (List.length_map _)⟩
/-- What the law asks of two lists of moves. -/
theorem joins {w : Wd} {a b : List Move} (hw : WdOK w) (ha : Mvs w.kinds a) (hal : a.length ≤ 6) (hb : Mvs (a.foldl worldStep w).kinds b) (hbl : b.length ≤ 6) :
    worldOf w a = (a.foldl worldStep w, 0) ∧ WdOK (a.foldl worldStep w) ∧ worldOf (a.foldl worldStep w) b = (b.foldl worldStep (a.foldl worldStep w), 0) ∧
    WdOK (b.foldl worldStep (a.foldl worldStep w)) ∧ worldOf w (a ++ b) = (b.foldl worldStep (a.foldl worldStep w), 0) ∧ kindsOf w.kinds (a ++ b) = ((b.foldl worldStep (a.foldl worldStep w)).kinds, 0) ∧
    (b.foldl worldStep (a.foldl worldStep w)).gens = w.gens ∧ (b.foldl worldStep (a.foldl worldStep w)).items.length = w.items.length := by
  have h1 := worldFold_ok a w hw ha.fold
  have h2 := worldFold_kinds a w ha.fold
  have h3 := worldFold_ok b _ h1 hb.fold
  have h4 := worldFold_kinds b _ hb.fold
  have h5 : kindsFold w.kinds (a ++ b) = kindsFold (a.foldl worldStep w).kinds b := by rw [kindsFold_app a b _ ha.fold, h2]
  have h6 : (kindsFold w.kinds (a ++ b)).2 = 0 := by rw [h5]; exact hb.fold
  have hl : (a ++ b).length ≤ 100 := by rw [List.length_append]; omega
  refine ⟨worldOf_ok hw (by omega) ha.fold, h1, worldOf_ok h1 (by omega) hb.fold, h3, ?_, ?_, ?_, ?_⟩
  · rw [worldOf_ok hw hl h6, List.foldl_append]
  · rw [kindsOf_ok hw.ks hl, h5, h4]
    exact Prod.ext rfl hb.fold
  · rw [(worldFold_gens b _).1, (worldFold_gens a w).1]
  · rw [(worldFold_gens b _).2, (worldFold_gens a w).2]
end Go.Proofs.Ytfkppbkipbbmaaa

namespace Go.Proofs.Ytfkppbkipbbmaaa
set_option linter.unusedVariables false
open Go.RowKit
def baseM (w : World) : Mem := ⟨fun _ => none, fun _ => False, w, fun b => b < w.heap.size⟩
theorem baseM_good (w : World) : Good (baseM w) (baseM w) 0 [] [] :=
  ⟨fun z hz => (by cases hz), .nil, fun b hb => (by cases hb), fun b h => h, .nil, fun x hx => (by cases hx), fun x h => h.elim, .refl _, rfl, rfl, rfl, Nat.le_refl _⟩
theorem Good.bel {w : World} {m' : Mem} {N : Nat} {Z : Zs} {br : List Nat} (G : Good (baseM w) m' N Z br) : Below w.heap.size w m'.w :=
  ⟨G.os, G.tape, G.output, G.size, fun k hk => (G.le.F k hk).2⟩
theorem PS.calls_bool {P : Program} {f : FuncId} {args : List AV} {b : Bool} (h : PS P f args (bA b)) {w : World} {vals : Array Value} (hv : VTs (baseM w) args vals.toList []) :
    Calls P f vals w fun e w' => e = .returned (.bool b) ∧ Below w.heap.size w w' :=
  (h.run [] (baseM w) 0 [] vals rfl (baseM_good w) hv).mono fun e w' ⟨v, r, S', m', N', Z', br, h1, h2, h3, G, h4, h5, h6⟩ => by
    subst h1 h2 h5
    refine ⟨?_, G.bel⟩
    obtain ⟨⟨h7, _⟩, _⟩ := h4
    injection h7 with h7
    rw [h7]
theorem cells_vcs {α : Type} {m : Mem} {C : List Value → α → Prop} {sz : Nat} {f : α → AV} (hC : ∀ c x, C c x → VC m (f x) c []) : ∀ {l : List α} {xs : List Value}, Cells C sz xs l → VCs m (l.map f) xs []
  | [], _, h => ⟨h, rfl⟩
  | x :: l, _, ⟨c, ys, h1, h2, h3, h4⟩ => ⟨c, ys, [], [], h1, rfl, hC c x h3, cells_vcs hC h4⟩
theorem cell_block {w : World} {b o : Nat} {u : Value} (h : w.cell? ⟨b, o, none⟩ = some u) : ∃ arr t r, w.heap[b]? = some (.cells arr t r) ∧ arr[o]? = some u := by
  unfold World.cell? at h
  cases hb : w.heap[b]? with
  | none => simp only [hb] at h; cases h
  | some blk =>
    cases blk with
    | cells c t r => simp only [hb] at h; exact ⟨c, t, r, rfl, by simpa using h⟩
    | _ => simp only [hb] at h; cases h
theorem sl_vc {α : Type} {w : World} {C : World → Reg → List Value → α → Prop} {sz : Nat} {f : α → AV} {t : TypeId} {v : Value} {l : List α} (hsz : 0 < sz) (hC : ∀ c x, C w (Lt w) c x → VC (baseM w) (f x) c []) (hw : ∀ x, (f x).width = sz) (h : Sl w (Lt w) sz C v l) : VC (baseM w) (.lst false t sz (l.map f)) [v] [] := by
  obtain ⟨xs, ⟨h1, A, cap, rfl, hn, hr⟩, hc⟩ := h
  refine ⟨rfl, A, cap, by simp, by simpa using hn, fun e he => by obtain ⟨x, _, rfl⟩ := List.mem_map.1 he; exact hw x, fun h0 => ?_⟩
  have h0 : 0 < l.length := by simpa using h0
  obtain ⟨b, off, rfl, hb, hcell⟩ := hr h0
  have hx : 0 < xs.length := by rw [h1]; exact Nat.mul_pos h0 hsz
  obtain ⟨arr, t', r, h2, h3⟩ := cell_block (hcell 0 xs[0] (by simp))
  refine ⟨b, off, arr, t', r, rfl, hb, h2, ?_⟩
  have e : (arr.toList.drop off).take ((l.map f).length * sz) = xs := by
    apply List.ext_getElem?
    intro j
    rw [List.getElem?_take]
    split
    · rename_i hj
      have hj : j < xs.length := by rw [h1]; simpa using hj
      obtain ⟨arr2, t2, r2, h4, h5⟩ := cell_block (hcell j xs[j] (by simp))
      rw [h2] at h4
      injection h4 with h4
      injection h4 with h4
      subst h4
      rw [List.getElem?_drop, List.getElem?_eq_getElem hj]
      simpa using h5
    · rename_i hj
      rw [List.getElem?_eq_none]
      rw [h1]; simpa using hj
  rw [e]
  exact cells_vcs hC hc
theorem ints_vc {w : World} {v : Value} {l : List Int} (h : Ints w (Lt w) v l) : VC (baseM w) (intsA false l) [v] [] :=
  sl_vc (f := iA) (by decide) (fun c x hc => ⟨⟨hc, rfl⟩, rfl⟩) (fun _ => rfl) h
theorem vts_nil {m : Mem} : VTs m [] [] [] := ⟨rfl, rfl⟩
theorem vts_ints {w : World} {v : Value} {z : List Int} {l : List AV} {us : List Value} (h : Ints w (Lt w) v z) (k : VTs (baseM w) l us []) : VTs (baseM w) (intsA false z :: l) (v :: us) [] := (VTs_cons rfl).2 ⟨_, _, [], [], rfl, rfl, ints_vc h, k⟩
end Go.Proofs.Ytfkppbkipbbmaaa

namespace Go.Proofs.Ytfkppbkipbbmaaa
set_option linter.unusedVariables false
open Go.RowKit
set_option maxRecDepth 8000 in
set_option maxHeartbeats 1000000 in
theorem migrateJoins_ps (l m o : List Int) (hl : l.length * 8 ≤ 140737488351232) (hm : m.length * 8 ≤ 140737488351232) (ho : o.length * 8 ≤ 140737488351232) : PS Try.prog 5 [intsA false l, intsA false m, intsA false o] (bA true) := by
  have hwp := world_ps l
  have hok := genWorld_ok l
  obtain ⟨w, hw⟩ : ∃ w, genWorld l = w := ⟨_, rfl⟩
  rw [hw] at hwp hok
  clear hw
  have hL := hok.l
  have hmp := moves_ps w.kinds m hok.ks hm
  obtain ⟨hav, ha6⟩ := movesOf_ok (l := m) hok.ks
  obtain ⟨a, ha⟩ : ∃ a, movesOf w.kinds m 0 [] = a := ⟨_, rfl⟩
  rw [ha] at hmp hav ha6
  clear ha
  have hvok := worldFold_ok a w hok hav.fold
  have hop := moves_ps (a.foldl worldStep w).kinds o hvok.ks ho
  obtain ⟨hbv, hb6⟩ := movesOf_ok (l := o) hvok.ks
  obtain ⟨b, hb⟩ : ∃ b, movesOf (a.foldl worldStep w).kinds o 0 [] = b := ⟨_, rfl⟩
  rw [hb] at hop hbv hb6
  clear hb
  obtain ⟨j1, j2, j3, j4, j5, j6, j7, j8⟩ := joins hok hav ha6 hbv hb6
  have hMa : MsB a := ⟨by omega, fun x hx => by have := hav.len x hx; omega⟩
  have hMb : MsB b := ⟨by omega, fun x hx => by have := hbv.len x hx; omega⟩
  have hMab : MsB (a ++ b) := ⟨by rw [List.length_append]; omega, fun x hx => (List.mem_append.1 hx).elim (hMa.2 x) (hMb.2 x)⟩
  have hwa := world_mps w a hL hMa
  have hwb := world_mps _ b hvok.l hMb
  have hwab := world_mps w (a ++ b) hL hMab
  have hkab := kinds_mps w.kinds (a ++ b) hMab
  rw [j1] at hwa
  rw [j3] at hwb
  rw [j5] at hwab
  rw [j6] at hkab
  obtain ⟨v, hv⟩ : ∃ v, a.foldl worldStep w = v := ⟨_, rfl⟩
  rw [hv] at hwa hwb hwab hkab hop hvok j7 j8 j4 
  obtain ⟨u, hu⟩ : ∃ u, b.foldl worldStep v = u := ⟨_, rfl⟩
  rw [hu] at hwb hwab hkab j7 j8 j4
  have hcc : PS Try.prog 21 [.lst false 38 1 [movesA false false a, movesA false false b]] (movesA true false (a ++ b)) := by
    have h := concatM_ps [a, b] (by simp) (by simp; omega)
    simp only [List.map_cons, List.map_nil, List.flatten_cons, List.flatten_nil, List.append_nil] at h
    exact h
  have hsm := sameT_ps u u j4.l
  have hsk := sameKindsT_ps u.kinds u.kinds j4.l.ks
  have hck := check_ps' u j4.l.gens j4.l.items.1 (fun it hit => (j4.l.items.2 it hit).1)
  rw [(wdErr_iff u).2 j4] at hck
  rw [decide_eq_true rfl] at hsm hsk
  have hge := equalI_ps u.gens w.gens j4.l.gens
  rw [decide_eq_true j7] at hge
  clear hv hu j1 j3 j5 j6
  have hil : (((u.items.map (itemA false)).length : Nat) : Int) = (w.items.map (itemA false)).length := by rw [List.length_map, List.length_map]; omega
  obtain ⟨wk, wg, wi⟩ := w
  obtain ⟨vk, vg, vi⟩ := v
  obtain ⟨uk, ug, ui⟩ := u
  refine Spec.of (nt := 105) (res := [.tmp 6]) Try.func5 rfl (by kernel_rfl) rfl rfl rfl fun Sf => ?_
  (repeat (first | (refine AOps.gN ?_; first | (refine AOps.g_callf ?_; first | refine AOps.c1 (h := (hwp ..)) (k := ?_) | refine AOps.c0 (h := (dropped_ps ..)) (k := ?_))) | refine WK ?_ | refine All.i fun V => ?_ | refine AllY.i fun Y => ?_))
  refine AWP.cond_f rfl rfl ?_
  (repeat refine WF ?_); refine AWP.region ?_; (repeat (first | (refine AOps.gN ?_; first | (refine AOps.g_callf ?_; first | refine AOps.c1 (h := (hwp ..)) (k := ?_))) | refine WO ?_ | refine All.i fun V => ?_ | refine AllY.i fun Y => ?_)); refine AOps.nil ?_; (repeat refine WN ?_)
  (repeat refine WF ?_); refine AWP.region ?_; (repeat (first | (refine AOps.gN ?_; first | (refine AOps.g_callf ?_; first | refine AOps.c2 (h := (hmp ..)) (k := ?_))) | refine WO ?_ | refine All.i fun X => ?_ | refine AllY.i fun Y => ?_)); refine AOps.nil ?_; (repeat refine WN ?_)
  (repeat refine WF ?_); refine AWP.region ?_; (repeat (first | (refine AOps.gN ?_; first | (refine AOps.g_callf ?_; first | refine AOps.c2 (h := (hwa ..)) (k := ?_))) | refine WO ?_ | refine All.i fun U => ?_ | refine AllY.i fun Y => ?_)); refine AOps.nil ?_; (repeat refine WN ?_)
  (repeat (first | refine WK ?_ | refine All.i fun X => ?_ | refine AllY.i fun Y => ?_))
  refine AWP.cond_f rfl rfl ?_
  (repeat refine WF ?_); refine AWP.region ?_; (repeat (first | (refine AOps.gN ?_; first | (refine AOps.g_callf ?_; first | refine AOps.c2 (h := (hop ..)) (k := ?_))) | refine WO ?_ | refine All.i fun X => ?_ | refine AllY.i fun Y => ?_)); refine AOps.nil ?_; (repeat refine WN ?_)
  (repeat refine WF ?_); refine AWP.region ?_; (repeat (first | (refine AOps.gN ?_; first | (refine AOps.g_callf ?_; first | refine AOps.c2 (h := (hwb ..)) (k := ?_))) | refine WO ?_ | refine All.i fun K => ?_ | refine AllY.i fun Y => ?_)); refine AOps.nil ?_; (repeat refine WN ?_)
  refine AWP.rs fun B => ?_
  (repeat refine WF ?_); refine AWP.region_run (by kernel_rfl) (by kernel_rfl) ?_; (repeat (first | (refine RGo.gN ?_; first | (refine RGo.g_callf ?_; first | refine RGo.c1 (h := (hcc ..)) (k := ?_) | refine RGo.c2 (h := (hwab ..)) (k := ?_)) | refine RGo.goL2 (movesA false false a) (movesA false false b) ?_) | (refine RGo.gQ ?_; first | (refine RGo.g_callf ?_; first | refine RGo.c1 (h := (hcc ..)) (k := ?_) | refine RGo.c2 (h := (hwab ..)) (k := ?_)) | refine RGo.goL2 (movesA false false a) (movesA false false b) ?_) | refine RK ?_ | refine RGo.nil (by kernel_rfl) ?_))
  (repeat refine WF ?_); refine AWP.region_run (by kernel_rfl) (by kernel_rfl) ?_; (repeat (first | (refine RGo.gN ?_; first | (refine RGo.g_callf ?_; first | refine RGo.c1 (h := (hcc ..)) (k := ?_) | refine RGo.c2 (h := (hkab ..)) (k := ?_)) | refine RGo.goL2 (movesA false false a) (movesA false false b) ?_) | (refine RGo.gQ ?_; first | (refine RGo.g_callf ?_; first | refine RGo.c1 (h := (hcc ..)) (k := ?_) | refine RGo.c2 (h := (hkab ..)) (k := ?_)) | refine RGo.goL2 (movesA false false a) (movesA false false b) ?_) | refine RK ?_ | refine RGo.nil (by kernel_rfl) ?_))
  (repeat refine WF ?_)
  (repeat (first | (refine AOps.gN ?_; first | (refine AOps.g_callf ?_; first | refine AOps.c2 (h := (hsm ..)) (k := ?_) | refine AOps.c2 (h := (hsk ..)) (k := ?_) | refine AOps.c1 (h := (hck ..)) (k := ?_) | refine AOps.c2 (h := (hge ..)) (k := ?_))) | refine WK ?_ | refine All.i fun X => ?_ | refine AllY.i fun Y => ?_))
  (refine AWP.ret ?_; (repeat (first | refine inB_r ?_ | refine andThen_r ?_)); refine retQ_r ?_); refine Ends.ps ?_
  exact congrArg bA (decide_eq_true hil)
theorem migrateJoins_calls (z0 : List Int) (A0 : Option Addr) (n0 cap0 : Nat) (z1 : List Int) (A1 : Option Addr) (n1 cap1 : Nat) (z2 : List Int) (A2 : Option Addr) (n2 cap2 : Nat) (w : World) (h0 : Ints w (Lt w) (.slice A0 n0 cap0) z0) (hlen0 : z0.length * 8 ≤ 140737488351232) (h1 : Ints w (Lt w) (.slice A1 n1 cap1) z1) (hlen1 : z1.length * 8 ≤ 140737488351232) (h2 : Ints w (Lt w) (.slice A2 n2 cap2) z2) (hlen2 : z2.length * 8 ≤ 140737488351232) :
    Calls Try.prog 5 #[.slice A0 n0 cap0, .slice A1 n1 cap1, .slice A2 n2 cap2] w fun e w' => e = .returned (.bool true) ∧ Below w.heap.size w w' :=
  (migrateJoins_ps z0 z1 z2 hlen0 hlen1 hlen2).calls_bool (vts_ints h0 (vts_ints h1 (vts_ints h2 (vts_nil))))
end Go.Proofs.Ytfkppbkipbbmaaa
