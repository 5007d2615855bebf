/- The walks of package tourkeep3 over abstract values: comp. -/
import Derived.Test.YtcfleoaldoebhaaAKe
namespace Go.Proofs.Ytcfleoaldoebhaa
set_option linter.unusedVariables false
def compVals (c : Nat) (n : Int) (l : List Int) : List Int := (List.range c).map fun j => l.getD j n
theorem compVals_len (c : Nat) (n : Int) (l : List Int) : (compVals c n l).length = c := by simp [compVals]
theorem compVals_succ (c : Nat) (n : Int) (l : List Int) : compVals (c + 1) n l = compVals c n l ++ [l.getD c n] := by simp [compVals, List.range_succ]
theorem comp_ps (ks : List Kind) (n : Int) (l : List Int) (i : Nat) (hil : i < ks.length) (hi : n % (ks.length : Int) = i) (h8 : (ks[i]).fields.length ≤ 8) (hlen : ks.length ≤ 1099511627776) :
    PS Try.prog 27 [kindsA false false ks, iA n, intsA false l] (compA false ⟨i, compVals (ks[i]).fields.length n l⟩) := by
  refine Spec.of (nt := 42) (res := [.cell 6 58]) Try.func27 rfl (by kernel_rfl) rfl rfl rfl fun Sf => ?_
  have hb0 : PS Try.prog 19 [iA n, iA (ks.map (kindA false)).length] (iA i) := by
    have := below_ps n (ks.length : Int) (by omega) (by omega)
    rw [hi] at this
    simpa using this
  (repeat (first | (refine AOps.gN ?_; first | (refine AOps.g_callf ?_; first | refine AOps.c2 (h := (hb0 ..)) (k := ?_)) | (refine AOps.g_store ?_; refine AOps.goS ?_) | (refine AOps.g_alloc ?_; refine AOps.goF fun X => ?_) | (refine AOps.g_box ?_; refine AOps.goF fun X => ?_) | (refine AOps.g_append ?_; refine AOps.goA fun Y => ?_) | refine AOps.go ?_) | (refine AOps.gQ ?_; first | refine AOps.met ?_ | refine AOps.goN ?_ | refine AOps.goQ1 ?_ | refine AOps.goQ2 ?_ | refine AOps.goQ3 ?_) | refine AOps.nil ?_ | refine AWP.seq ?_ | refine AWP.region ?_ | refine AWP.skip ?_ | refine AWP.block ?_ | refine AWP.exit ?_ | refine andThen_n ?_ | refine inB_n ?_ | refine andThen_e ?_ | refine inB_e ?_ | refine inB_ne rfl ?_))
  rename_i R
  refine AWP.adoptIn 3 1 .here (fun F => .cons (.agg (.cons .same (.cons (.base .nil) .nil))) .nil) fun F => ?_
  refine AWP.lp3 (fun (j F : Nat) (L : List AV) => ⟨[(1, iA n), (2, intsA false l), (6, .ptr R 0 0), (7, .ptr X 0 0), (21, iA ((ks[i]).fields.map fieldA).length), (22, iA j)], (F, .row 3 1 L) :: (X, .row 58 2 [.agg [iA i, .sl F 0 j]]) :: (R, .row 58 2 [.agg [iA 0, .prim (.slice none 0 0)]]) :: Sf⟩) (fun j _ L => j ≤ (ks[i]).fields.length ∧ L = (compVals j n l).map iA) (fun j _ _ => (ks[i]).fields.length - j) 0 F [] ⟨Nat.zero_le _, rfl⟩ ?_
  rintro j F L ⟨hj, hL⟩
  have hLl : L.length = j := by rw [hL, List.length_map, compVals_len]
  (repeat (first | (refine AOps.gN ?_; first | (refine AOps.g_store ?_; refine AOps.goS ?_) | (refine AOps.g_alloc ?_; refine AOps.goF fun X => ?_) | (refine AOps.g_box ?_; refine AOps.goF fun X => ?_) | (refine AOps.g_append ?_; refine AOps.goA fun Y => ?_) | refine AOps.go ?_) | (refine AOps.gQ ?_; first | refine AOps.met ?_ | refine AOps.goN ?_ | refine AOps.goQ1 ?_ | refine AOps.goQ2 ?_ | refine AOps.goQ3 ?_) | refine AOps.nil ?_ | refine AWP.seq ?_ | refine AWP.region ?_ | refine AWP.skip ?_ | refine AWP.block ?_ | refine AWP.exit ?_ | refine andThen_n ?_ | refine inB_n ?_ | refine andThen_e ?_ | refine inB_e ?_ | refine inB_ne rfl ?_))
  refine AWP.cond rfl (fun hb => ?_) (fun hb => ?_)
  · have h : j < (ks[i]).fields.length := by rw [decide_eq_true_eq, List.length_map] at hb; omega
    (repeat (first | (refine AOps.gN ?_; first | (refine AOps.g_store ?_; refine AOps.goS ?_) | (refine AOps.g_alloc ?_; refine AOps.goF fun X => ?_) | (refine AOps.g_box ?_; refine AOps.goF fun X => ?_) | (refine AOps.g_append ?_; refine AOps.goA fun Y => ?_) | refine AOps.go ?_) | (refine AOps.gQ ?_; first | refine AOps.met ?_ | refine AOps.goN ?_ | refine AOps.goQ1 ?_ | refine AOps.goQ2 ?_ | refine AOps.goQ3 ?_) | refine AOps.nil ?_ | refine AWP.seq ?_ | refine AWP.region ?_ | refine AWP.skip ?_ | refine AWP.block ?_ | refine AWP.exit ?_ | refine andThen_n ?_ | refine inB_n ?_ | refine andThen_e ?_ | refine inB_e ?_ | refine inB_ne rfl ?_))
    refine AWP.cond rfl (fun hc => ?_) (fun hc => ?_)
    · have hc : j < l.length := by simpa using hc
      (repeat (first | (refine AOps.gN ?_; first | (refine AOps.g_store ?_; refine AOps.goS ?_) | (refine AOps.g_alloc ?_; refine AOps.goF fun X => ?_) | (refine AOps.g_box ?_; refine AOps.goF fun X => ?_) | (refine AOps.g_append ?_; refine AOps.goA fun Y => ?_) | refine AOps.go ?_) | (refine AOps.gQ ?_; first | refine AOps.met ?_ | refine AOps.goN ?_ | refine AOps.goQ1 ?_ | refine AOps.goQ2 ?_ | refine AOps.goQ3 ?_) | refine AOps.nil ?_ | refine AWP.seq ?_ | refine AWP.region ?_ | refine AWP.skip ?_ | refine AWP.block ?_ | refine AWP.exit ?_ | refine andThen_n ?_ | refine inB_n ?_ | refine andThen_e ?_ | refine inB_e ?_ | refine inB_ne rfl ?_))
      refine lp_next3 (j + 1) _ _ ⟨h, ?_⟩
      rw [compVals_succ, List.map_append, hL, show l.getD j n = l[j] from by simp [List.getD_eq_getElem?_getD, hc]]
      rfl
    · have hc : ¬ j < l.length := by simpa using hc
      (repeat (first | (refine AOps.gN ?_; first | (refine AOps.g_store ?_; refine AOps.goS ?_) | (refine AOps.g_alloc ?_; refine AOps.goF fun X => ?_) | (refine AOps.g_box ?_; refine AOps.goF fun X => ?_) | (refine AOps.g_append ?_; refine AOps.goA fun Y => ?_) | refine AOps.go ?_) | (refine AOps.gQ ?_; first | refine AOps.met ?_ | refine AOps.goN ?_ | refine AOps.goQ1 ?_ | refine AOps.goQ2 ?_ | refine AOps.goQ3 ?_) | refine AOps.nil ?_ | refine AWP.seq ?_ | refine AWP.region ?_ | refine AWP.skip ?_ | refine AWP.block ?_ | refine AWP.exit ?_ | refine andThen_n ?_ | refine inB_n ?_ | refine andThen_e ?_ | refine inB_e ?_ | refine inB_ne rfl ?_))
      refine lp_next3 (j + 1) _ _ ⟨h, ?_⟩
      rw [compVals_succ, List.map_append, hL, show l.getD j n = n from by simp [List.getD_eq_getElem?_getD, List.getElem?_eq_none (Nat.le_of_not_lt hc)]]
      rfl
  · have h : j = (ks[i]).fields.length := by rw [decide_eq_false_iff_not, List.length_map] at hb; omega
    subst h
    (repeat (first | refine AOps.nil ?_ | refine AWP.seq ?_ | refine AWP.skip ?_ | refine AWP.block ?_ | refine AWP.exit ?_ | refine andThen_n ?_ | refine inB_n ?_ | refine andThen_e ?_ | refine inB_e ?_ | refine inB_ne rfl ?_))
    refine AWP.iceIn (X := F) .here (.next .here) rfl (.cons (.agg (.cons .same (.cons (.base (.sl (by omega))) .nil))) .nil) ?_
    have hF : AV.frzs ((L.drop 0).take (ks[i]).fields.length) = (compVals (ks[i]).fields.length n l).map iA := by
      rw [List.drop_zero, List.take_of_length_le (by omega), hL]
      exact Frzs.h
    rw [hF]
    (repeat (first | (refine AOps.gN ?_; first | (refine AOps.g_store ?_; refine AOps.goS ?_) | (refine AOps.g_alloc ?_; refine AOps.goF fun X => ?_) | (refine AOps.g_box ?_; refine AOps.goF fun X => ?_) | (refine AOps.g_append ?_; refine AOps.goA fun Y => ?_) | refine AOps.go ?_) | (refine AOps.gQ ?_; first | refine AOps.met ?_ | refine AOps.goN ?_ | refine AOps.goQ1 ?_ | refine AOps.goQ2 ?_ | refine AOps.goQ3 ?_) | refine AOps.nil ?_ | refine AWP.seq ?_ | refine AWP.region ?_ | refine AWP.skip ?_ | refine AWP.block ?_ | refine AWP.exit ?_ | refine andThen_n ?_ | refine inB_n ?_ | refine andThen_e ?_ | refine inB_e ?_ | refine inB_ne rfl ?_))
    (refine AWP.ret ?_; (repeat (first | refine inB_r ?_ | refine andThen_r ?_)); refine retQ_r ?_)
    refine Ends.id (rs := [compA false ⟨i, compVals (ks[i]).fields.length n l⟩]) rfl (.cons (.cell (p := 2) rfl (.next (.next .here)) TAg.h TSize.h rfl rfl) rfl .nil)
end Go.Proofs.Ytcfleoaldoebhaa
