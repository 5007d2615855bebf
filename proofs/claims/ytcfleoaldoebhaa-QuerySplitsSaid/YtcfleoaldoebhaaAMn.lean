/- The walks of package tourmake over abstract values: Below and Stream.Next. -/
import Derived.Test.YtcfleoaldoebhaaEnc
import Derived.Test.YtcfleoaldoebhaaAbs14
import Derived.Test.YtcfleoaldoebhaaMakeM
namespace Go.Proofs.Ytcfleoaldoebhaa
set_option linter.unusedVariables false
theorem below_ps (x n : Int) (hn : 1 ≤ n) (h2 : n ≤ 4611686018427387904) : PS Try.prog 19 [iA x, iA n] (iA (x % n)) := by
  refine Spec.of (nt := 14) (res := [.tmp 4]) Try.func19 rfl (by kernel_rfl) rfl rfl rfl fun Sf => ?_
  have h3 : x.tmod n < n := Int.tmod_lt_of_pos _ (by omega)
  have h4 : -n < x.tmod n := by
    have := Int.lt_tmod_of_pos x (b := n) (by omega)
    exact this
  have h5 : x.tmod n = x % n ∨ x.tmod n + n = x % n ∧ x.tmod n < 0 := by
    rw [Int.tmod_eq_emod]
    split
    · exact .inl (by simp)
    · have := Int.emod_nonneg x (b := n) (by omega)
      have := Int.emod_lt_of_pos x (b := n) (by omega)
      refine .inr ?_
      have : ((n.natAbs : Nat) : Int) = n := by omega
      omega
  have h6 := Int.emod_nonneg x (b := n) (by omega)
  (repeat (first | (refine AOps.gN ?_; first | refine AOps.p (W.rem rfl rfl (by omega)) rfl ?_ | (refine AOps.g_store ?_; refine AOps.goS ?_) | (refine AOps.g_alloc ?_; refine AOps.goF fun X => ?_) | (refine AOps.g_box ?_; refine AOps.goF fun X => ?_) | (refine AOps.g_append ?_; refine AOps.goA fun Y => ?_) | refine AOps.go ?_) | (refine AOps.gQ ?_; first | refine AOps.met ?_ | refine AOps.goN ?_ | refine AOps.goQ1 ?_ | refine AOps.goQ2 ?_ | refine AOps.goQ3 ?_) | refine AOps.nil ?_ | refine AWP.seq ?_ | refine AWP.region ?_ | refine AWP.skip ?_ | refine AWP.block ?_ | refine AWP.exit ?_ | refine andThen_n ?_ | refine inB_n ?_ | refine andThen_e ?_ | refine inB_e ?_ | refine inB_ne rfl ?_))
  refine AWP.cond rfl (fun hb => ?_) (fun hb => ?_)
  · have hb : x.tmod n < 0 := by simpa using hb
    (repeat (first | (refine AOps.gN ?_; first | (refine AOps.g_store ?_; refine AOps.goS ?_) | (refine AOps.g_alloc ?_; refine AOps.goF fun X => ?_) | (refine AOps.g_box ?_; refine AOps.goF fun X => ?_) | (refine AOps.g_append ?_; refine AOps.goA fun Y => ?_) | refine AOps.go ?_) | (refine AOps.gQ ?_; first | refine AOps.met ?_ | refine AOps.goN ?_ | refine AOps.goQ1 ?_ | refine AOps.goQ2 ?_ | refine AOps.goQ3 ?_) | refine AOps.nil ?_ | refine AWP.seq ?_ | refine AWP.region ?_ | refine AWP.skip ?_ | refine AWP.block ?_ | refine AWP.exit ?_ | refine andThen_n ?_ | refine inB_n ?_ | refine andThen_e ?_ | refine inB_e ?_ | refine inB_ne rfl ?_))
    (refine AWP.ret ?_; (repeat (first | refine inB_r ?_ | refine andThen_r ?_)); refine retQ_r ?_)
    exact Ends.plain rfl rfl (by (repeat (first | exact List.Sublist.refl _ | exact List.Sublist.slnil | apply List.Sublist.cons_cons | apply List.Sublist.cons))) ⟨by rw [show x.tmod n + n = x % n from by omega], rfl⟩
  · have hb : ¬ x.tmod n < 0 := by simpa using hb
    (repeat (first | (refine AOps.gN ?_; first | (refine AOps.g_store ?_; refine AOps.goS ?_) | (refine AOps.g_alloc ?_; refine AOps.goF fun X => ?_) | (refine AOps.g_box ?_; refine AOps.goF fun X => ?_) | (refine AOps.g_append ?_; refine AOps.goA fun Y => ?_) | refine AOps.go ?_) | (refine AOps.gQ ?_; first | refine AOps.met ?_ | refine AOps.goN ?_ | refine AOps.goQ1 ?_ | refine AOps.goQ2 ?_ | refine AOps.goQ3 ?_) | refine AOps.nil ?_ | refine AWP.seq ?_ | refine AWP.region ?_ | refine AWP.skip ?_ | refine AWP.block ?_ | refine AWP.exit ?_ | refine andThen_n ?_ | refine inB_n ?_ | refine andThen_e ?_ | refine inB_e ?_ | refine inB_ne rfl ?_))
    (refine AWP.ret ?_; (repeat (first | refine inB_r ?_ | refine andThen_r ?_)); refine retQ_r ?_)
    exact Ends.plain rfl rfl (by (repeat (first | exact List.Sublist.refl _ | exact List.Sublist.slnil | apply List.Sublist.cons_cons | apply List.Sublist.cons))) ⟨by rw [show x.tmod n = x % n from by omega], rfl⟩
abbrev streamO (l : List Int) : AO := .row 93 1 [.agg [intsA false l]]
theorem next_po (X : Nat) (l : List Int) (n : Int) (h2 : n ≤ 4611686018427387904) : PO Try.prog 43 [.ptr X 0 0, iA n] X (streamO l) (iA (nextV l n)) (streamO (nextL l n)) := by
  refine Spec.of (nt := 33) (res := [.tmp 4]) Try.func43 rfl (by kernel_rfl) rfl rfl rfl fun Sf => ?_
  (repeat (first | (refine AOps.gN ?_; first | (refine AOps.g_store ?_; refine AOps.goS ?_) | (refine AOps.g_alloc ?_; refine AOps.goF fun X => ?_) | (refine AOps.g_box ?_; refine AOps.goF fun X => ?_) | (refine AOps.g_append ?_; refine AOps.goA fun Y => ?_) | refine AOps.go ?_) | (refine AOps.gQ ?_; first | refine AOps.met ?_ | refine AOps.goN ?_ | refine AOps.goQ1 ?_ | refine AOps.goQ2 ?_ | refine AOps.goQ3 ?_) | refine AOps.nil ?_ | refine AWP.seq ?_ | refine AWP.region ?_ | refine AWP.skip ?_ | refine AWP.block ?_ | refine AWP.exit ?_ | refine andThen_n ?_ | refine inB_n ?_ | refine andThen_e ?_ | refine inB_e ?_ | refine inB_ne rfl ?_))
  refine AWP.cond rfl (fun hb => ?_) (fun hb => ?_)
  · (repeat (first | (refine AOps.gN ?_; first | (refine AOps.g_store ?_; refine AOps.goS ?_) | (refine AOps.g_alloc ?_; refine AOps.goF fun X => ?_) | (refine AOps.g_box ?_; refine AOps.goF fun X => ?_) | (refine AOps.g_append ?_; refine AOps.goA fun Y => ?_) | refine AOps.go ?_) | (refine AOps.gQ ?_; first | refine AOps.met ?_ | refine AOps.goN ?_ | refine AOps.goQ1 ?_ | refine AOps.goQ2 ?_ | refine AOps.goQ3 ?_) | refine AOps.nil ?_ | refine AWP.seq ?_ | refine AWP.region ?_ | refine AWP.skip ?_ | refine AWP.block ?_ | refine AWP.exit ?_ | refine andThen_n ?_ | refine inB_n ?_ | refine andThen_e ?_ | refine inB_e ?_ | refine inB_ne rfl ?_))
    (refine AWP.ret ?_; (repeat (first | refine inB_r ?_ | refine andThen_r ?_)); refine retQ_r ?_)
    have hb : l.length = 0 ∨ n < 1 := by simp only [Bool.or_eq_true, decide_eq_true_eq, List.length_map] at hb; omega
    have e1 : nextV l n = 0 := by
      unfold nextV
      split
      · rfl
      · rcases hb with hb | hb
        · rw [List.length_eq_zero_iff.1 hb]
        · omega
    have e2 : nextL l n = l := by
      unfold nextL
      split
      · rfl
      · rcases hb with hb | hb
        · rw [List.length_eq_zero_iff.1 hb]; rfl
        · omega
    rw [e1, e2]
    exact Ends.plainS rfl rfl (by (repeat (first | exact List.Sublist.refl _ | exact List.Sublist.slnil | apply List.Sublist.cons_cons | apply List.Sublist.cons))) ⟨rfl, rfl⟩
  · have hb : l.length ≠ 0 ∧ 1 ≤ n := by simp only [Bool.or_eq_false_iff, decide_eq_false_iff_not, List.length_map] at hb; omega
    obtain ⟨hb, hn⟩ := hb
    cases l with
    | nil => exact absurd rfl hb
    | cons x l =>
    (repeat (first | (refine AOps.gN ?_; first | refine AOps.p (W.idxL rfl rfl (a := 0) rfl rfl) rfl ?_ | refine AOps.p (W.loL rfl rfl (a := 1) rfl (by simp)) rfl ?_ | refine AOps.p (W.call2 rfl rfl (below_ps _ _ hn h2) rfl) rfl ?_ | (refine AOps.g_store ?_; refine AOps.goS ?_) | (refine AOps.g_alloc ?_; refine AOps.goF fun X => ?_) | (refine AOps.g_box ?_; refine AOps.goF fun X => ?_) | (refine AOps.g_append ?_; refine AOps.goA fun Y => ?_) | refine AOps.go ?_) | (refine AOps.gQ ?_; first | refine AOps.met ?_ | refine AOps.goN ?_ | refine AOps.goQ1 ?_ | refine AOps.goQ2 ?_ | refine AOps.goQ3 ?_) | refine AOps.nil ?_ | refine AWP.seq ?_ | refine AWP.region ?_ | refine AWP.skip ?_ | refine AWP.block ?_ | refine AWP.exit ?_ | refine andThen_n ?_ | refine inB_n ?_ | refine andThen_e ?_ | refine inB_e ?_ | refine inB_ne rfl ?_))
    (refine AWP.ret ?_; (repeat (first | refine inB_r ?_ | refine andThen_r ?_)); refine retQ_r ?_)
    rw [show nextV (x :: l) n = x % n from by unfold nextV; rw [if_neg (by omega)], show nextL (x :: l) n = l from by unfold nextL; rw [if_neg (by omega)]; rfl]
    exact Ends.plainS (S' := [(X, streamO l)]) rfl rfl (by (repeat (first | exact List.Sublist.refl _ | exact List.Sublist.slnil | apply List.Sublist.cons_cons | apply List.Sublist.cons))) ⟨rfl, rfl⟩
end Go.Proofs.Ytcfleoaldoebhaa
