/- The walks of package kind over abstract values: kind.Fit. -/
import Derived.Test.YtcfleoaldoebhaaAKh
import Derived.Test.YtcfleoaldoebhaaAKo
namespace Go.Proofs.Ytcfleoaldoebhaa
set_option linter.unusedVariables false
theorem oneErr_len {k : Kind} (h : oneErr k = 0) : k.fields.length ≤ 8 := by
  unfold oneErr at h
  split at h
  · split at h
    · cases h
    · omega
  · cases h
def fitL (k : Kind) (vals : List Int) (i : Nat) : List Int := (List.zipWith nearOf k.fields vals).take i ++ List.replicate (vals.length - i) 0
theorem fitL_at {k : Kind} {vals : List Int} {i : Nat} (hl : vals.length = k.fields.length) (h : i < vals.length) : ((fitL k vals i).map iA)[i]? = some (iA 0) := by
  have hz : (List.zipWith nearOf k.fields vals).length = vals.length := by simp; omega
  rw [List.getElem?_map, fitL, List.getElem?_append_right (by simp; omega)]
  rw [List.length_take, Nat.min_eq_left (by omega), Nat.sub_self, List.getElem?_replicate, if_pos (by omega)]
  rfl
theorem fitL_set {k : Kind} {vals : List Int} {i : Nat} (hl : vals.length = k.fields.length) (h : i < vals.length) : ((fitL k vals i).map iA).set i (iA (nearOf (k.fields[i]'(by omega)) vals[i])) = (fitL k vals (i + 1)).map iA := by
  have hz : (List.zipWith nearOf k.fields vals).length = vals.length := by simp; omega
  rw [← List.map_set]
  congr 1
  unfold fitL
  rw [List.set_append_right _ _ (by simp; omega), List.length_take, Nat.min_eq_left (by omega), Nat.sub_self]
  rw [show vals.length - i = (vals.length - (i + 1)) + 1 from by omega, List.replicate_succ, List.set_cons_zero]
  rw [List.take_add_one, List.getElem?_eq_getElem (by omega), List.append_assoc]
  simp
theorem fit_ps (k : Kind) (vals : List Int) : PS Try.prog 25 [kindA false k, intsA false vals] (.tup [intsA true (fitOf k vals).1, iA (fitOf k vals).2]) := by
  refine Spec.of (nt := 43) (res := [.tmp 4, .tmp 5]) Try.func25 rfl (by kernel_rfl) rfl rfl rfl fun Sf => ?_
  (repeat (first | (refine AOps.gN ?_; first | refine AOps.p (W.call1 rfl (one_ps _) rfl) rfl ?_ | (refine AOps.rs fun B => ?_; refine AOps.s (W.box rfl .here rfl) rfl ?_) | (refine AOps.g_store ?_; refine AOps.goS ?_) | (refine AOps.g_alloc ?_; refine AOps.goF fun X => ?_) | (refine AOps.g_box ?_; refine AOps.goF fun X => ?_) | (refine AOps.g_append ?_; refine AOps.goA fun Y => ?_) | refine AOps.go ?_) | (refine AOps.gQ ?_; first | refine AOps.met ?_ | refine AOps.goN ?_ | refine AOps.goQ1 ?_ | refine AOps.goQ2 ?_ | refine AOps.goQ3 ?_) | refine AOps.nil ?_ | refine AWP.seq ?_ | refine AWP.region ?_ | refine AWP.skip ?_ | refine AWP.block ?_ | refine AWP.exit ?_ | refine andThen_n ?_ | refine inB_n ?_ | refine andThen_e ?_ | refine inB_e ?_ | refine inB_ne rfl ?_))
  refine AWP.cond rfl (fun hb => ?_) (fun hb => ?_)
  · have hb : oneErr k ≠ 0 := by simpa using hb
    (repeat (first | (refine AOps.gN ?_; first | (refine AOps.g_store ?_; refine AOps.goS ?_) | (refine AOps.g_alloc ?_; refine AOps.goF fun X => ?_) | (refine AOps.g_box ?_; refine AOps.goF fun X => ?_) | (refine AOps.g_append ?_; refine AOps.goA fun Y => ?_) | refine AOps.go ?_) | (refine AOps.gQ ?_; first | refine AOps.met ?_ | refine AOps.goN ?_ | refine AOps.goQ1 ?_ | refine AOps.goQ2 ?_ | refine AOps.goQ3 ?_) | refine AOps.nil ?_ | refine AWP.seq ?_ | refine AWP.region ?_ | refine AWP.skip ?_ | refine AWP.block ?_ | refine AWP.exit ?_ | refine andThen_n ?_ | refine inB_n ?_ | refine andThen_e ?_ | refine inB_e ?_ | refine inB_ne rfl ?_))
    (refine AWP.ret ?_; (repeat (first | refine inB_r ?_ | refine andThen_r ?_)); refine retQ_r ?_)
    rw [show fitOf k vals = ([], oneErr k) from by simp [fitOf, hb]]
    exact ⟨[.prim (.slice none 0 0), iA (oneErr k)], [intsA true [], iA (oneErr k)], _, [], .cons (.tmp rfl) rfl (.cons (.tmp rfl) rfl .nil), .cons (.cell .nil) (.cons (.cell .same) .nil), by (repeat (first | exact List.Sublist.refl _ | exact List.Sublist.slnil | apply List.Sublist.cons_cons | apply List.Sublist.cons)), rfl, rfl⟩
  have hk : oneErr k = 0 := by simpa using hb
  have h8 := oneErr_len hk
  (repeat (first | (refine AOps.gN ?_; first | (refine AOps.g_store ?_; refine AOps.goS ?_) | (refine AOps.g_alloc ?_; refine AOps.goF fun X => ?_) | (refine AOps.g_box ?_; refine AOps.goF fun X => ?_) | (refine AOps.g_append ?_; refine AOps.goA fun Y => ?_) | refine AOps.go ?_) | (refine AOps.gQ ?_; first | refine AOps.met ?_ | refine AOps.goN ?_ | refine AOps.goQ1 ?_ | refine AOps.goQ2 ?_ | refine AOps.goQ3 ?_) | refine AOps.nil ?_ | refine AWP.seq ?_ | refine AWP.region ?_ | refine AWP.skip ?_ | refine AWP.block ?_ | refine AWP.exit ?_ | refine andThen_n ?_ | refine inB_n ?_ | refine andThen_e ?_ | refine inB_e ?_ | refine inB_ne rfl ?_))
  refine AWP.cond rfl (fun hb => ?_) (fun hb => ?_)
  · have hb : vals.length ≠ k.fields.length := by rw [decide_eq_true_eq, List.length_map, List.length_map] at hb; omega
    (repeat (first | (refine AOps.gN ?_; first | (refine AOps.g_store ?_; refine AOps.goS ?_) | (refine AOps.g_alloc ?_; refine AOps.goF fun X => ?_) | (refine AOps.g_box ?_; refine AOps.goF fun X => ?_) | (refine AOps.g_append ?_; refine AOps.goA fun Y => ?_) | refine AOps.go ?_) | (refine AOps.gQ ?_; first | refine AOps.met ?_ | refine AOps.goN ?_ | refine AOps.goQ1 ?_ | refine AOps.goQ2 ?_ | refine AOps.goQ3 ?_) | refine AOps.nil ?_ | refine AWP.seq ?_ | refine AWP.region ?_ | refine AWP.skip ?_ | refine AWP.block ?_ | refine AWP.exit ?_ | refine andThen_n ?_ | refine inB_n ?_ | refine andThen_e ?_ | refine inB_e ?_ | refine inB_ne rfl ?_))
    (refine AWP.ret ?_; (repeat (first | refine inB_r ?_ | refine andThen_r ?_)); refine retQ_r ?_)
    rw [show fitOf k vals = ([], 1) from by simp [fitOf, hk, hb]]
    exact ⟨[.prim (.slice none 0 0), iA 1], [intsA true [], iA 1], _, [], .cons (.tmp rfl) rfl (.cons (.tmp rfl) rfl .nil), .cons (.cell .nil) (.cons (.cell .same) .nil), by (repeat (first | exact List.Sublist.refl _ | exact List.Sublist.slnil | apply List.Sublist.cons_cons | apply List.Sublist.cons)), rfl, rfl⟩
  have hl : vals.length = k.fields.length := by rw [decide_eq_false_iff_not, List.length_map, List.length_map] at hb; omega
  have hv : (vals.map iA).length ≤ 8 := by simp; omega
  have hz : List.replicate (vals.map iA).length (zAV [.int .i64 0] false) = (fitL k vals 0).map iA := by simp [fitL]; exact .inr rfl
  (repeat (first | (refine AOps.gN ?_; first | (refine AOps.rs fun XL => ?_; refine AOps.s (W.make rfl rfl .here rfl (.inr rfl) rfl rfl (Nat.le_refl _) (by omega) (Nat.le_trans hv (by decide))) rfl ?_) | (refine AOps.g_store ?_; refine AOps.goS ?_) | (refine AOps.g_alloc ?_; refine AOps.goF fun X => ?_) | (refine AOps.g_box ?_; refine AOps.goF fun X => ?_) | (refine AOps.g_append ?_; refine AOps.goA fun Y => ?_) | refine AOps.go ?_) | (refine AOps.gQ ?_; first | refine AOps.met ?_ | refine AOps.goN ?_ | refine AOps.goQ1 ?_ | refine AOps.goQ2 ?_ | refine AOps.goQ3 ?_) | refine AWP.loopR (fun i : Nat => ⟨[(1, intsA false vals), (7, .sl XL 0 (vals.map iA).length), (25, fieldsA false k.fields), (26, iA (k.fields.map fieldA).length), (27, iA i)], (XL, .row 3 1 ((fitL k vals i).map iA)) :: (B, .row 51 2 [kindA false k]) :: Sf⟩) (fun i => i ≤ vals.length) (fun i => vals.length - i) 0 (Nat.zero_le _) ⟨.cons rfl (.cons rfl (.cons rfl (.cons rfl (.cons rfl .nil)))), (by show List.Sublist ((XL, .row 3 1 ((fitL k vals 0).map iA)) :: (B, .row 51 2 [kindA false k]) :: Sf) _; rw [← hz]; (repeat (first | exact List.Sublist.refl _ | exact List.Sublist.slnil | apply List.Sublist.cons_cons | apply List.Sublist.cons)))⟩ ?_ | refine AOps.nil ?_ | refine AWP.seq ?_ | refine AWP.region ?_ | refine AWP.skip ?_ | refine AWP.block ?_ | refine AWP.exit ?_ | refine andThen_n ?_ | refine inB_n ?_ | refine andThen_e ?_ | refine inB_e ?_ | refine inB_ne rfl ?_))
  rintro i hi
  (repeat (first | (refine AOps.gN ?_; first | (refine AOps.g_store ?_; refine AOps.goS ?_) | (refine AOps.g_alloc ?_; refine AOps.goF fun X => ?_) | (refine AOps.g_box ?_; refine AOps.goF fun X => ?_) | (refine AOps.g_append ?_; refine AOps.goA fun Y => ?_) | refine AOps.go ?_) | (refine AOps.gQ ?_; first | refine AOps.met ?_ | refine AOps.goN ?_ | refine AOps.goQ1 ?_ | refine AOps.goQ2 ?_ | refine AOps.goQ3 ?_) | refine AOps.nil ?_ | refine AWP.seq ?_ | refine AWP.region ?_ | refine AWP.skip ?_ | refine AWP.block ?_ | refine AWP.exit ?_ | refine andThen_n ?_ | refine inB_n ?_ | refine andThen_e ?_ | refine inB_e ?_ | refine inB_ne rfl ?_))
  refine AWP.cond rfl (fun hb => ?_) (fun hb => ?_)
  · have h : i < vals.length := by rw [decide_eq_true_eq, List.length_map] at hb; omega
    have h' : i < k.fields.length := by omega
    (repeat (first | (refine AOps.gN ?_; first | refine AOps.p (W.idxL rfl rfl rfl (map_at _ h')) rfl ?_ | (refine AOps.g_store ?_; refine AOps.goS ?_) | (refine AOps.g_alloc ?_; refine AOps.goF fun X => ?_) | (refine AOps.g_box ?_; refine AOps.goF fun X => ?_) | (refine AOps.g_append ?_; refine AOps.goA fun Y => ?_) | refine AOps.go ?_) | (refine AOps.gQ ?_; first | refine AOps.met ?_ | refine AOps.goN ?_ | refine AOps.goQ1 ?_ | refine AOps.goQ2 ?_ | refine AOps.goQ3 ?_) | refine AOps.nil ?_ | refine AWP.seq ?_ | refine AWP.region ?_ | refine AWP.skip ?_ | refine AWP.block ?_ | refine AWP.exit ?_ | refine andThen_n ?_ | refine inB_n ?_ | refine andThen_e ?_ | refine inB_e ?_ | refine inB_ne rfl ?_))
    refine AWP.region_run (by kernel_rfl) (by kernel_rfl) ?_; (repeat (first | (refine RGo.gN ?_; first | refine RGo.p (W.idxL rfl rfl rfl (map_at _ h)) rfl ?_ | refine RGo.p (W.call2 rfl rfl (near_ps _ _) rfl) rfl ?_ | refine RGo.p (W.idx rfl rfl (by (first | exact At.here | exact (At.next At.here) | exact (At.next (At.next At.here)) | exact (At.next (At.next (At.next At.here))) | exact (At.next (At.next (At.next (At.next At.here)))) | exact (At.next (At.next (At.next (At.next (At.next At.here))))) | exact (At.next (At.next (At.next (At.next (At.next (At.next At.here)))))))) rfl (by simpa using h) (Nat.zero_add _)) rfl ?_ | refine RGo.s (W.store rfl rfl (by (first | exact At.here | exact (At.next At.here) | exact (At.next (At.next At.here)) | exact (At.next (At.next (At.next At.here))) | exact (At.next (At.next (At.next (At.next At.here)))) | exact (At.next (At.next (At.next (At.next (At.next At.here))))) | exact (At.next (At.next (At.next (At.next (At.next (At.next At.here)))))))) (fitL_at hl h) (by exact rfl)) rfl ?_ | (refine RGo.g_store ?_; refine RGo.goS ?_) | (refine RGo.g_append ?_; refine RGo.goA ?_) | (refine RGo.g_alloc ?_; refine RGo.goR ?_) | (refine RGo.g_box ?_; refine RGo.goR ?_) | refine RGo.go ?_) | (refine RGo.gQ ?_; first | refine RGo.p (W.idxL rfl rfl rfl (map_at _ h)) rfl ?_ | refine RGo.p (W.call2 rfl rfl (near_ps _ _) rfl) rfl ?_ | refine RGo.p (W.idx rfl rfl (by (first | exact At.here | exact (At.next At.here) | exact (At.next (At.next At.here)) | exact (At.next (At.next (At.next At.here))) | exact (At.next (At.next (At.next (At.next At.here)))) | exact (At.next (At.next (At.next (At.next (At.next At.here))))) | exact (At.next (At.next (At.next (At.next (At.next (At.next At.here)))))))) rfl (by simpa using h) (Nat.zero_add _)) rfl ?_ | refine RGo.s (W.store rfl rfl (by (first | exact At.here | exact (At.next At.here) | exact (At.next (At.next At.here)) | exact (At.next (At.next (At.next At.here))) | exact (At.next (At.next (At.next (At.next At.here)))) | exact (At.next (At.next (At.next (At.next (At.next At.here))))) | exact (At.next (At.next (At.next (At.next (At.next (At.next At.here)))))))) (fitL_at hl h) (by exact rfl)) rfl ?_ | (refine RGo.g_store ?_; refine RGo.goS ?_) | (refine RGo.g_append ?_; refine RGo.goA ?_) | (refine RGo.g_alloc ?_; refine RGo.goR ?_) | (refine RGo.g_box ?_; refine RGo.goR ?_) | refine RGo.go ?_ | refine RGo.goN ?_ | refine RGo.goQ1 ?_ | refine RGo.goQ2 ?_ | refine RGo.goQ3 ?_) | refine RGo.nil (by kernel_rfl) ?_))
    (repeat (first | (refine AOps.gN ?_; first | (refine AOps.g_store ?_; refine AOps.goS ?_) | (refine AOps.g_alloc ?_; refine AOps.goF fun X => ?_) | (refine AOps.g_box ?_; refine AOps.goF fun X => ?_) | (refine AOps.g_append ?_; refine AOps.goA fun Y => ?_) | refine AOps.go ?_) | (refine AOps.gQ ?_; first | refine AOps.met ?_ | refine AOps.goN ?_ | refine AOps.goQ1 ?_ | refine AOps.goQ2 ?_ | refine AOps.goQ3 ?_) | refine AOps.nil ?_ | refine AWP.seq ?_ | refine AWP.region ?_ | refine AWP.skip ?_ | refine AWP.block ?_ | refine AWP.exit ?_ | refine andThen_n ?_ | refine inB_n ?_ | refine andThen_e ?_ | refine inB_e ?_ | refine inB_ne rfl ?_))
    refine ⟨i + 1, by omega, by omega, .cons rfl (.cons rfl (.cons rfl (.cons rfl (.cons rfl .nil)))), ?_⟩
    show List.Sublist ((XL, .row 3 1 ((fitL k vals (i + 1)).map iA)) :: (B, .row 51 2 [kindA false k]) :: Sf) _
    rw [← fitL_set hl h]
    (repeat (first | exact List.Sublist.refl _ | exact List.Sublist.slnil | apply List.Sublist.cons_cons | apply List.Sublist.cons))
  · have h : ¬ i < vals.length := by rw [decide_eq_false_iff_not, List.length_map] at hb; omega
    (repeat (first | (refine AOps.gN ?_; first | (refine AOps.g_store ?_; refine AOps.goS ?_) | (refine AOps.g_alloc ?_; refine AOps.goF fun X => ?_) | (refine AOps.g_box ?_; refine AOps.goF fun X => ?_) | (refine AOps.g_append ?_; refine AOps.goA fun Y => ?_) | refine AOps.go ?_) | (refine AOps.gQ ?_; first | refine AOps.met ?_ | refine AOps.goN ?_ | refine AOps.goQ1 ?_ | refine AOps.goQ2 ?_ | refine AOps.goQ3 ?_) | refine AOps.nil ?_ | refine AWP.seq ?_ | refine AWP.region ?_ | refine AWP.skip ?_ | refine AWP.block ?_ | refine AWP.exit ?_ | refine andThen_n ?_ | refine inB_n ?_ | refine andThen_e ?_ | refine inB_e ?_ | refine inB_ne rfl ?_))
    (refine AWP.ret ?_; (repeat (first | refine inB_r ?_ | refine andThen_r ?_)); refine retQ_r ?_)
    rw [show fitOf k vals = (List.zipWith nearOf k.fields vals, 0) from by simp [fitOf, hk, hl]]
    have he : (fitL k vals i).map iA = (List.zipWith nearOf k.fields vals).map iA := by
      congr 1
      rw [fitL, show vals.length - i = 0 from by omega, List.take_of_length_le (by simp; omega)]
      simp
    refine ⟨[.sl XL 0 (vals.map iA).length, iA 0], [.lst true 3 1 ((fitL k vals i).map iA), iA 0], _, [], .cons (.tmp rfl) rfl (.cons (.tmp rfl) rfl .nil), .cons (.cell (.sl (p := 0) .here (by rw [he]; simp; omega))) (.cons (.cell .same) .nil), by (repeat (first | exact List.Sublist.refl _ | exact List.Sublist.slnil | apply List.Sublist.cons_cons | apply List.Sublist.cons)), ?_, rfl⟩
    rw [he]
    rfl
end Go.Proofs.Ytcfleoaldoebhaa
