/-
  slices.Clone at []tourney/api.Kind: a copy in new memory.
-/
import Derived.Test.YtcfleoaldoebhaaSlI
import Derived.Test.YtcfleoaldoebhaaMakeA
namespace Go.Proofs.Ytcfleoaldoebhaa
set_option linter.unusedSimpArgs false
set_option linter.unusedVariables false
open Go.RowKit

set_option maxRecDepth 100000 in
set_option maxHeartbeats 400000 in
theorem clone_kind_calls (l : List Kind) (A : Option Addr) (n cap : Nat) (w : World) (hl : Kinds w (Lt w) (.slice A n cap) l) (hlen : l.length * 40 ≤ 140737488355328) :
    Calls Try.prog 23 #[.slice A n cap] w (OwnPost 51 2 kindC (Lt w) w l) := by
  obtain rfl := hl.len
  have hnil := fun W a n c => Lib.run_eql_slice_nil (P := Try.prog) W 36 51 a n c 0 0 Try.underlying36
  cases A with
  | none =>
    have h0 : l = [] := by
      rcases Nat.eq_zero_or_pos l.length with h | h
      · exact List.eq_nil_of_length_eq_zero h
      · obtain ⟨b, off, c, e, _⟩ := Sl.at hl h
        cases e
    subst h0
    go_enter Try.func23, Try.ntmps23
    go_wp2
    go_ret
    exact ⟨_, rfl, OwnL.nil _ _ _ _ _ _, Below.refl _ _⟩
  | some ad =>
    have hb1 : Below w.heap.size w (w.alloc (.cells #[] 51)) := (Below.refl _ _).alloc (Nat.le_refl _) _
    have HS := Lib.hid (Sl.to hl (fun c x h => good_kind.to _ _ _ _ _ _ h (fun b hb => show b < w.heap.size ∧ b < (w.alloc (.cells #[] 51)).heap.size ∧ some w.heap.size ≠ some b from ⟨hb, by simp; unfold Lt at hb; omega, fun e => by injection e with e; unfold Lt at hb; omega⟩) (Same.lt hb1)) (fun b hb => show b < w.heap.size ∧ b < (w.alloc (.cells #[] 51)).heap.size ∧ some w.heap.size ≠ some b from ⟨hb, by simp; unfold Lt at hb; omega, fun e => by injection e with e; unfold Lt at hb; omega⟩) (Same.lt hb1))
    go_enter Try.func23, Try.ntmps23
    go_wp2_with (at_builtin; refine wpList_app tKinds good_kind rfl _ _ rfl _ rfl rfl (own_lit0 w w.heap.size 51 (Lt w) 2 kindC (Nat.le_refl _)) HS.out (by simp only [List.length_nil, Nat.zero_add]; omega) (by simp only [List.length_nil, Nat.zero_add, maxLen]; omega) (by simp) ?_; intro v1 w1 hown hg hat)
    go_ret
    refine ⟨_, rfl, by simpa using hown, hb1.grown hg (by simp) fun k hk => ?_⟩
    injection hk with hk
    exact Nat.le_of_eq hk

end Go.Proofs.Ytcfleoaldoebhaa
