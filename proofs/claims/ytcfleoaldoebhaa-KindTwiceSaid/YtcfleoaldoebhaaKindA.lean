/-
  A step of a proof about the given program: KindA. Conditions: those that each theorem names.
-/
import Derived.Test.YtcfleoaldoebhaaProg
import Derived.WalkLawsBesides
import Derived.WalkSpells
import Derived.Test.YtcfleoaldoebhaaKindM
import Derived.Test.YtcfleoaldoebhaaLaw
namespace Go.Proofs.Ytcfleoaldoebhaa
open Go.RowKit

theorem ret_bool {a b : Bool} (h : a = b) : Ending.returned (.bool a) = .returned (.bool b) := by rw [h]
theorem ret_int {a b : Int} (h : a = b) : Ending.returned (.int .i64 a) = .returned (.int .i64 b) := by rw [h]

set_option linter.unusedSimpArgs false
set_option linter.unusedVariables false
set_option maxHeartbeats 400000 in
theorem name_calls (l : List UInt8) (w : World) :
    Calls Try.prog 67 #[strV l] w fun e w' => e = .returned (.bool (nameOk l)) ∧ w = w' := by
  by_cases hs : l.length = 0 ∨ 16 < l.length
  · have H := Lib.hid (nameOk_long l hs)
    rcases hs with hs | hs
    · obtain rfl := List.eq_nil_of_length_eq_zero hs
      go_enter Try.func67, Try.ntmps67
      go_wp2
      all_goals go_ret
      all_goals exact ⟨ret_bool (by rw [H.out]), rfl⟩
    · go_enter Try.func67, Try.ntmps67
      go_wp2
      all_goals go_ret
      all_goals exact ⟨ret_bool (by rw [H.out]), rfl⟩
  · have hs0 : 0 < l.length := by omega
    have hs1 : l.length ≤ 16 := by omega
    have hn : l ≠ [] := by intro e; subst e; simp at hs0
    have g1 : ((l.length : Int) == 0) = false := beq_eq_false_iff_ne.2 (by omega)
    have g2 : decide (16 < (l.length : Int)) = false := by simpa using by omega
    go_enter Try.func67, Try.ntmps67
    go_wp2
    go_loop [3, 15] (fun _ i => ∃ k : Nat, k ≤ l.length ∧ i = .int .i64 k ∧ ∀ j, j < k → chOk l j = true) (fun _ i => l.length - (intOf i).toNat)
    case atStart => exact ⟨0, Nat.zero_le _, rfl, by omega⟩
    case round =>
      obtain ⟨k, hk, rfl, hj⟩ := hrel
      have Hj := Lib.hid hj
      clear hj
      by_cases hlt : k < l.length
      · have Hc := Lib.hid (chOk_iff l k hlt)
        go_wp2
        all_goals first
          | (go_round
             case rel =>
               refine ⟨k + 1, by omega, by go_num, fun j hj => ?_⟩
               rcases Nat.lt_or_ge j k with h | h
               · exact Hj.out j h
               · obtain rfl : j = k := by omega
                 refine Hc.out.2 ?_
                 simp only [Bool.not_eq_true', Bool.not_eq_false', decide_eq_true_eq, decide_eq_false_iff_not] at *
                 omega
             case measure => simp [intOf]; omega)
          | (go_ret
             refine ⟨ret_bool (nameOk_no l k hlt ?_).symm, rfl⟩
             rw [Bool.eq_false_iff]
             intro hc
             have hc := Hc.out.1 hc
             simp only [Bool.not_eq_true', Bool.not_eq_false', decide_eq_true_eq, decide_eq_false_iff_not] at *
             omega)
      · go_wp2
        go_ret
        exact ⟨ret_bool (nameOk_yes l hs0 hs1 fun j hj => Hj.out j (by omega)).symm, rfl⟩

set_option maxHeartbeats 400000 in
theorem field_calls (f : Field) (w : World) :
    Calls Try.prog 47 #[.agg #[strV f.name, .int .i64 f.bits, .int .i64 f.low]] w fun e w' => e = .returned (.int .i64 (fieldErr f)) ∧ Below w.heap.size w w' := by
  go_enter Try.func47, Try.ntmps47
  go_wp2_with (go_at_call 67; refine (name_calls _ _).mono ?_; rintro e w' ⟨rfl, rfl⟩)
  all_goals go_ret
  all_goals refine ⟨ret_int (Eq.symm ?_), (Below.refl _ _).alloc (Nat.le_refl _) _⟩
  all_goals first
    | (refine fieldErr_ok f (by assumption) ?_; omega)
    | (refine fieldErr_no f (fun hc => ?_); first | omega | (exfalso; simp_all; done))

end Go.Proofs.Ytcfleoaldoebhaa
