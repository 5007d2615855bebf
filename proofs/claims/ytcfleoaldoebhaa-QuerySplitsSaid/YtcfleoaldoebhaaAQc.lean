/- The walk of world.CopyComps over abstract values. -/
import Derived.Test.YtcfleoaldoebhaaALcI
namespace Go.Proofs.Ytcfleoaldoebhaa
set_option linter.unusedVariables false
/-- A list that is filled from the left: the first i of l, then z. -/
def fillTo {α : Type} (f : α → AV) (z : AV) (l : List α) (i : Nat) : List AV := (l.take i).map f ++ List.replicate (l.length - i) z
theorem fillTo_zero {α : Type} (f : α → AV) (z : AV) (l : List α) : fillTo f z l 0 = List.replicate l.length z := by simp [fillTo]
theorem fillTo_len {α : Type} (f : α → AV) (z : AV) (l : List α) (i : Nat) (h : i ≤ l.length) : (fillTo f z l i).length = l.length := by simp [fillTo]; omega
theorem fillTo_at {α : Type} (f : α → AV) (z : AV) (l : List α) {i : Nat} (h : i < l.length) : (fillTo f z l i)[i]? = some z := by
  unfold fillTo
  rw [List.getElem?_append_right (by simp; omega)]
  simp only [List.length_map, List.length_take, Nat.min_eq_left (Nat.le_of_lt h), Nat.sub_self]
  rw [List.getElem?_replicate, if_pos (by omega)]
theorem fillTo_set {α : Type} (f : α → AV) (z : AV) (l : List α) {i : Nat} (h : i < l.length) : (fillTo f z l i).set i (f l[i]) = fillTo f z l (i + 1) := by
  unfold fillTo
  rw [List.set_append_right _ _ (by simp; omega), List.take_add_one, List.getElem?_eq_getElem h]
  simp only [List.length_map, List.length_take, Nat.min_eq_left (Nat.le_of_lt h), Nat.sub_self, Option.toList_some, List.map_append, List.map_cons, List.map_nil, List.append_assoc]
  congr 1
  rw [show l.length - i = (l.length - (i + 1)) + 1 from by omega, List.replicate_succ]
  rfl
theorem fillTo_all {α : Type} (f : α → AV) (z : AV) (l : List α) {i : Nat} (h : l.length ≤ i) : fillTo f z l i = l.map f := by
  unfold fillTo
  rw [List.take_of_length_le h, show l.length - i = 0 from by omega]
  simp
theorem copyComps_ps (l : List Comp) (hl : l.length ≤ 1099511627776) (hv : ∀ c ∈ l, c.vals.length ≤ 1099511627776) : PS Try.prog 65 [compsA false false l] (compsA true false l) := by
  refine Spec.of (nt := 27) (res := [.tmp 2]) Try.func65 rfl (by kernel_rfl) rfl rfl rfl fun Sf => ?_
  have hl' : (l.map (compA false)).length ≤ 1099511627776 := by simpa using hl
  (repeat (first | (refine AOps.gN ?_; first | (refine AOps.g_make ?_; refine AOps.goM (.agg [iA 0, .prim (.slice none 0 0)]) fun K => ?_) | (refine AOps.g_store ?_; refine AOps.goS ?_) | (refine AOps.g_alloc ?_; refine AOps.goF fun X => ?_) | (refine AOps.g_box ?_; refine AOps.goF fun X => ?_) | (refine AOps.g_append ?_; refine AOps.goA fun Y => ?_) | refine AOps.go ?_) | (refine AOps.gQ ?_; first | refine AOps.met ?_ | refine AOps.goN ?_ | refine AOps.goQ1 ?_ | refine AOps.goQ2 ?_ | refine AOps.goQ3 ?_) | refine AOps.nil ?_ | refine AWP.seq ?_ | refine AWP.region ?_ | refine AWP.skip ?_ | refine AWP.block ?_ | refine AWP.exit ?_ | refine andThen_n ?_ | refine inB_n ?_ | refine andThen_e ?_ | refine inB_e ?_ | refine inB_ne rfl ?_))
  refine AWP.lp (fun i : Nat => ⟨[(3, .sl K 0 (l.map (compA false)).length), (9, compsA false false l), (10, iA (l.map (compA false)).length), (11, iA i)], (K, .row 58 2 (fillTo (compA false) (.agg [iA 0, .prim (.slice none 0 0)]) l i)) :: Sf⟩) (fun i => i ≤ l.length) (fun i => l.length - i) 0 (Nat.zero_le _) ?_ ⟨by (repeat (first | exact .nil | refine .cons (by first | rfl | assumption) ?_)), by rw [fillTo_zero, ← List.length_map (f := compA false)]; (repeat (first | exact List.Sublist.refl _ | exact List.Sublist.slnil | apply List.Sublist.cons_cons | apply List.Sublist.cons))⟩
  rintro i hi
  (repeat (first | (refine AOps.gN ?_; first | (refine AOps.g_store ?_; refine AOps.goS ?_) | (refine AOps.g_alloc ?_; refine AOps.goF fun X => ?_) | (refine AOps.g_box ?_; refine AOps.goF fun X => ?_) | (refine AOps.g_append ?_; refine AOps.goA fun Y => ?_) | refine AOps.go ?_) | (refine AOps.gQ ?_; first | refine AOps.met ?_ | refine AOps.goN ?_ | refine AOps.goQ1 ?_ | refine AOps.goQ2 ?_ | refine AOps.goQ3 ?_) | refine AOps.nil ?_ | refine AWP.seq ?_ | refine AWP.region ?_ | refine AWP.skip ?_ | refine AWP.block ?_ | refine AWP.exit ?_ | refine andThen_n ?_ | refine inB_n ?_ | refine andThen_e ?_ | refine inB_e ?_ | refine inB_ne rfl ?_))
  refine AWP.cond rfl (fun hc => ?_) (fun hc => ?_)
  · have h : i < l.length := by simpa using hc
    have hm : i < (l.map (compA false)).length := by simpa using h
    have hat := fillTo_at (compA false) (.agg [iA 0, .prim (.slice none 0 0)]) l h
    (repeat (first | (refine AOps.gN ?_; first | (refine AOps.g_store ?_; refine AOps.goS ?_) | (refine AOps.g_alloc ?_; refine AOps.goF fun X => ?_) | (refine AOps.g_box ?_; refine AOps.goF fun X => ?_) | (refine AOps.g_append ?_; refine AOps.goA fun Y => ?_) | refine AOps.go ?_) | (refine AOps.gQ ?_; first | refine AOps.met ?_ | refine AOps.goN ?_ | refine AOps.goQ1 ?_ | refine AOps.goQ2 ?_ | refine AOps.goQ3 ?_) | refine AOps.nil ?_ | refine AWP.seq ?_ | refine AWP.region ?_ | refine AWP.skip ?_ | refine AWP.block ?_ | refine AWP.exit ?_ | refine andThen_n ?_ | refine inB_n ?_ | refine andThen_e ?_ | refine inB_e ?_ | refine inB_ne rfl ?_))
    (repeat (first | refine AWP.seq ?_ | refine AWP.skip ?_ | refine AWP.block ?_ | refine AWP.exit ?_ | refine andThen_n ?_ | refine inB_n ?_ | refine andThen_e ?_ | refine inB_e ?_ | refine inB_ne rfl ?_)); refine AWP.region_run (by kernel_rfl) (by kernel_rfl) ?_; (repeat (first | (refine RGo.gN ?_; first | (refine RGo.g_callf ?_; first | refine RGo.c1 (h := (cloneI_ps _ (by have := hv _ (List.getElem_mem h); omega))) (k := ?_)) | (refine RGo.g_store ?_; refine RGo.goS ?_) | (refine RGo.g_append ?_; refine RGo.goA ?_) | (refine RGo.g_alloc ?_; refine RGo.goR ?_) | (refine RGo.g_box ?_; refine RGo.goR ?_) | refine RGo.go ?_) | (refine RGo.gQ ?_; first | (refine RGo.g_callf ?_; first | refine RGo.c1 (h := (cloneI_ps _ (by have := hv _ (List.getElem_mem h); omega))) (k := ?_)) | (refine RGo.g_store ?_; refine RGo.goS ?_) | (refine RGo.g_append ?_; refine RGo.goA ?_) | (refine RGo.g_alloc ?_; refine RGo.goR ?_) | (refine RGo.g_box ?_; refine RGo.goR ?_) | refine RGo.go ?_ | refine RGo.goN ?_ | refine RGo.goQ1 ?_ | refine RGo.goQ2 ?_ | refine RGo.goQ3 ?_) | refine RGo.nil (by kernel_rfl) ?_))
    (repeat (first | (refine AOps.gN ?_; first | (refine AOps.g_store ?_; refine AOps.goS ?_) | (refine AOps.g_alloc ?_; refine AOps.goF fun X => ?_) | (refine AOps.g_box ?_; refine AOps.goF fun X => ?_) | (refine AOps.g_append ?_; refine AOps.goA fun Y => ?_) | refine AOps.go ?_) | (refine AOps.gQ ?_; first | refine AOps.met ?_ | refine AOps.goN ?_ | refine AOps.goQ1 ?_ | refine AOps.goQ2 ?_ | refine AOps.goQ3 ?_) | refine AOps.nil ?_ | refine AWP.seq ?_ | refine AWP.region ?_ | refine AWP.skip ?_ | refine AWP.block ?_ | refine AWP.exit ?_ | refine andThen_n ?_ | refine inB_n ?_ | refine andThen_e ?_ | refine inB_e ?_ | refine inB_ne rfl ?_))
    have hs := fillTo_set (compA false) (.agg [iA 0, .prim (.slice none 0 0)]) l h
    refine lp_nextS (i + 1) h ?_
    dsimp only
    rw [← hs]
    (repeat (first | exact List.Sublist.refl _ | exact List.Sublist.slnil | apply List.Sublist.cons_cons | apply List.Sublist.cons))
  · have h : l.length ≤ i := by rw [decide_eq_false_iff_not, List.length_map] at hc; omega
    rw [fillTo_all _ _ _ h]
    (repeat (first | (refine AOps.gN ?_; first | (refine AOps.g_store ?_; refine AOps.goS ?_) | (refine AOps.g_alloc ?_; refine AOps.goF fun X => ?_) | (refine AOps.g_box ?_; refine AOps.goF fun X => ?_) | (refine AOps.g_append ?_; refine AOps.goA fun Y => ?_) | refine AOps.go ?_) | (refine AOps.gQ ?_; first | refine AOps.met ?_ | refine AOps.goN ?_ | refine AOps.goQ1 ?_ | refine AOps.goQ2 ?_ | refine AOps.goQ3 ?_) | refine AOps.nil ?_ | refine AWP.seq ?_ | refine AWP.region ?_ | refine AWP.skip ?_ | refine AWP.block ?_ | refine AWP.exit ?_ | refine andThen_n ?_ | refine inB_n ?_ | refine andThen_e ?_ | refine inB_e ?_ | refine inB_ne rfl ?_))
    (refine AWP.ret ?_; (repeat (first | refine inB_r ?_ | refine andThen_r ?_)); refine retQ_r ?_)
    exact ⟨[.sl K 0 (l.map (compA false)).length], [.lst true 58 2 (l.map (compA false))], _, [], .cons (.tmp rfl) rfl .nil, .cons (.cell (.sl (p := 0) .here rfl)) .nil, by (repeat (first | exact List.Sublist.refl _ | exact List.Sublist.slnil | apply List.Sublist.cons_cons | apply List.Sublist.cons)), rfl, rfl⟩
end Go.Proofs.Ytcfleoaldoebhaa
