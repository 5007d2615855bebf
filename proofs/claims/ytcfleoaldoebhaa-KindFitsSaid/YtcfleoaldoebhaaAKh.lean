/- The walks of package kind over abstract values: kind.High and kind.Near. -/
import Derived.Test.YtcfleoaldoebhaaAKf
namespace Go.Proofs.Ytcfleoaldoebhaa
set_option linter.unusedVariables false
theorem high_ps (f : Field) : PS Try.prog 29 [fieldA f] (iA (highOf f)) := by
  refine Spec.of (nt := 13) (res := [.tmp 2]) Try.func29 rfl (by kernel_rfl) rfl rfl rfl fun Sf => ?_
  (repeat (first | (refine AOps.gN ?_; first | refine AOps.p (W.call1 rfl (field_ps _) rfl) rfl ?_ | (refine AOps.g_store ?_; refine AOps.goS ?_) | (refine AOps.g_alloc ?_; refine AOps.goF fun X => ?_) | (refine AOps.g_box ?_; refine AOps.goF fun X => ?_) | (refine AOps.g_append ?_; refine AOps.goA fun Y => ?_) | refine AOps.go ?_) | (refine AOps.gQ ?_; first | refine AOps.met ?_ | refine AOps.goN ?_ | refine AOps.goQ1 ?_ | refine AOps.goQ2 ?_ | refine AOps.goQ3 ?_) | refine AOps.nil ?_ | refine AWP.seq ?_ | refine AWP.region ?_ | refine AWP.skip ?_ | refine AWP.block ?_ | refine AWP.exit ?_ | refine andThen_n ?_ | refine inB_n ?_ | refine andThen_e ?_ | refine inB_e ?_ | refine inB_ne rfl ?_))
  refine AWP.cond rfl (fun hb => ?_) (fun hb => ?_)
  · have hb : fieldErr f ≠ 0 := by simpa using hb
    (repeat (first | (refine AOps.gN ?_; first | (refine AOps.g_store ?_; refine AOps.goS ?_) | (refine AOps.g_alloc ?_; refine AOps.goF fun X => ?_) | (refine AOps.g_box ?_; refine AOps.goF fun X => ?_) | (refine AOps.g_append ?_; refine AOps.goA fun Y => ?_) | refine AOps.go ?_) | (refine AOps.gQ ?_; first | refine AOps.met ?_ | refine AOps.goN ?_ | refine AOps.goQ1 ?_ | refine AOps.goQ2 ?_ | refine AOps.goQ3 ?_) | refine AOps.nil ?_ | refine AWP.seq ?_ | refine AWP.region ?_ | refine AWP.skip ?_ | refine AWP.block ?_ | refine AWP.exit ?_ | refine andThen_n ?_ | refine inB_n ?_ | refine andThen_e ?_ | refine inB_e ?_ | refine inB_ne rfl ?_))
    (refine AWP.ret ?_; (repeat (first | refine inB_r ?_ | refine andThen_r ?_)); refine retQ_r ?_)
    refine Ends.plain rfl rfl (by (repeat (first | exact List.Sublist.refl _ | exact List.Sublist.slnil | apply List.Sublist.cons_cons | apply List.Sublist.cons))) ⟨?_, rfl⟩
    simp [highOf, hb]
  have hb : fieldErr f = 0 := by simpa using hb
  have h1 := (fieldErr_eq_zero f).1 hb
  obtain ⟨n, hn⟩ : ∃ n : Nat, f.bits = n := ⟨f.bits.toNat, by omega⟩
  have hp : (2 : Int) ^ n ≤ 4294967296 ∧ 1 ≤ (2 : Int) ^ n := by
    have hn2 : n ≤ 32 := by omega
    clear hn
    have : ∀ n, n ≤ 32 → (2 : Int) ^ n ≤ 4294967296 ∧ 1 ≤ (2 : Int) ^ n := by decide
    exact this n hn2
  have hw : IntKind.i64.wrap (1 * 2 ^ n) = 2 ^ n := by rw [Int.one_mul]; exact wrap_id (by omega) (by omega)
  (repeat (first | (refine AOps.gN ?_; first | (refine AOps.g_store ?_; refine AOps.goS ?_) | (refine AOps.g_alloc ?_; refine AOps.goF fun X => ?_) | (refine AOps.g_box ?_; refine AOps.goF fun X => ?_) | (refine AOps.g_append ?_; refine AOps.goA fun Y => ?_) | refine AOps.go ?_) | (refine AOps.gQ ?_; first | refine AOps.met ?_ | refine AOps.goN ?_ | refine AOps.goQ1 ?_ | refine AOps.goQ2 ?_ | refine AOps.goQ3 ?_) | refine AOps.nil ?_ | refine AWP.seq ?_ | refine AWP.region ?_ | refine AWP.skip ?_ | refine AWP.block ?_ | refine AWP.exit ?_ | refine andThen_n ?_ | refine inB_n ?_ | refine andThen_e ?_ | refine inB_e ?_ | refine inB_ne rfl ?_))
  refine AWP.region_run (by kernel_rfl) (by kernel_rfl) ?_; (repeat (first | (refine RGo.gN ?_; first | refine RGo.p (W.shl rfl rfl hn (by show n ≤ 64; omega)) rfl ?_ | refine RGo.p (W.sub rfl rfl (by rw [hw]; omega)) rfl ?_ | refine RGo.p (W.add rfl rfl (by rw [hw]; omega)) rfl ?_ | (refine RGo.g_store ?_; refine RGo.goS ?_) | (refine RGo.g_append ?_; refine RGo.goA ?_) | (refine RGo.g_alloc ?_; refine RGo.goR ?_) | (refine RGo.g_box ?_; refine RGo.goR ?_) | refine RGo.go ?_) | (refine RGo.gQ ?_; first | refine RGo.p (W.shl rfl rfl hn (by show n ≤ 64; omega)) rfl ?_ | refine RGo.p (W.sub rfl rfl (by rw [hw]; omega)) rfl ?_ | refine RGo.p (W.add rfl rfl (by rw [hw]; omega)) rfl ?_ | (refine RGo.g_store ?_; refine RGo.goS ?_) | (refine RGo.g_append ?_; refine RGo.goA ?_) | (refine RGo.g_alloc ?_; refine RGo.goR ?_) | (refine RGo.g_box ?_; refine RGo.goR ?_) | refine RGo.go ?_ | refine RGo.goN ?_ | refine RGo.goQ1 ?_ | refine RGo.goQ2 ?_ | refine RGo.goQ3 ?_) | refine RGo.nil (by kernel_rfl) ?_))
  (repeat (first | (refine AOps.gN ?_; first | (refine AOps.g_store ?_; refine AOps.goS ?_) | (refine AOps.g_alloc ?_; refine AOps.goF fun X => ?_) | (refine AOps.g_box ?_; refine AOps.goF fun X => ?_) | (refine AOps.g_append ?_; refine AOps.goA fun Y => ?_) | refine AOps.go ?_) | (refine AOps.gQ ?_; first | refine AOps.met ?_ | refine AOps.goN ?_ | refine AOps.goQ1 ?_ | refine AOps.goQ2 ?_ | refine AOps.goQ3 ?_) | refine AOps.nil ?_ | refine AWP.seq ?_ | refine AWP.region ?_ | refine AWP.skip ?_ | refine AWP.block ?_ | refine AWP.exit ?_ | refine andThen_n ?_ | refine inB_n ?_ | refine andThen_e ?_ | refine inB_e ?_ | refine inB_ne rfl ?_))
  (refine AWP.ret ?_; (repeat (first | refine inB_r ?_ | refine andThen_r ?_)); refine retQ_r ?_)
  refine Ends.plain rfl rfl (by (repeat (first | exact List.Sublist.refl _ | exact List.Sublist.slnil | apply List.Sublist.cons_cons | apply List.Sublist.cons))) ⟨?_, rfl⟩
  simp only [hw]
  simp [highOf, hb, hn]
theorem near_ps (f : Field) (v : Int) : PS Try.prog 30 [fieldA f, iA v] (iA (nearOf f v)) := by
  refine Spec.of (nt := 15) (res := [.tmp 4]) Try.func30 rfl (by kernel_rfl) rfl rfl rfl fun Sf => ?_
  (repeat (first | (refine AOps.gN ?_; first | refine AOps.p (W.call1 rfl (field_ps _) rfl) rfl ?_ | (refine AOps.g_store ?_; refine AOps.goS ?_) | (refine AOps.g_alloc ?_; refine AOps.goF fun X => ?_) | (refine AOps.g_box ?_; refine AOps.goF fun X => ?_) | (refine AOps.g_append ?_; refine AOps.goA fun Y => ?_) | refine AOps.go ?_) | (refine AOps.gQ ?_; first | refine AOps.met ?_ | refine AOps.goN ?_ | refine AOps.goQ1 ?_ | refine AOps.goQ2 ?_ | refine AOps.goQ3 ?_) | refine AOps.nil ?_ | refine AWP.seq ?_ | refine AWP.region ?_ | refine AWP.skip ?_ | refine AWP.block ?_ | refine AWP.exit ?_ | refine andThen_n ?_ | refine inB_n ?_ | refine andThen_e ?_ | refine inB_e ?_ | refine inB_ne rfl ?_))
  refine AWP.cond rfl (fun hb => ?_) (fun hb => ?_)
  · have hb : fieldErr f ≠ 0 := by simpa using hb
    (repeat (first | (refine AOps.gN ?_; first | (refine AOps.g_store ?_; refine AOps.goS ?_) | (refine AOps.g_alloc ?_; refine AOps.goF fun X => ?_) | (refine AOps.g_box ?_; refine AOps.goF fun X => ?_) | (refine AOps.g_append ?_; refine AOps.goA fun Y => ?_) | refine AOps.go ?_) | (refine AOps.gQ ?_; first | refine AOps.met ?_ | refine AOps.goN ?_ | refine AOps.goQ1 ?_ | refine AOps.goQ2 ?_ | refine AOps.goQ3 ?_) | refine AOps.nil ?_ | refine AWP.seq ?_ | refine AWP.region ?_ | refine AWP.skip ?_ | refine AWP.block ?_ | refine AWP.exit ?_ | refine andThen_n ?_ | refine inB_n ?_ | refine andThen_e ?_ | refine inB_e ?_ | refine inB_ne rfl ?_))
    (refine AWP.ret ?_; (repeat (first | refine inB_r ?_ | refine andThen_r ?_)); refine retQ_r ?_)
    refine Ends.plain rfl rfl (by (repeat (first | exact List.Sublist.refl _ | exact List.Sublist.slnil | apply List.Sublist.cons_cons | apply List.Sublist.cons))) ⟨?_, rfl⟩
    simp [nearOf, hb]
  have hb : fieldErr f = 0 := by simpa using hb
  (repeat (first | (refine AOps.gN ?_; first | (refine AOps.g_store ?_; refine AOps.goS ?_) | (refine AOps.g_alloc ?_; refine AOps.goF fun X => ?_) | (refine AOps.g_box ?_; refine AOps.goF fun X => ?_) | (refine AOps.g_append ?_; refine AOps.goA fun Y => ?_) | refine AOps.go ?_) | (refine AOps.gQ ?_; first | refine AOps.met ?_ | refine AOps.goN ?_ | refine AOps.goQ1 ?_ | refine AOps.goQ2 ?_ | refine AOps.goQ3 ?_) | refine AOps.nil ?_ | refine AWP.seq ?_ | refine AWP.region ?_ | refine AWP.skip ?_ | refine AWP.block ?_ | refine AWP.exit ?_ | refine andThen_n ?_ | refine inB_n ?_ | refine andThen_e ?_ | refine inB_e ?_ | refine inB_ne rfl ?_))
  refine AWP.region_run (by kernel_rfl) (by kernel_rfl) ?_; (repeat (first | (refine RGo.gN ?_; first | refine RGo.p (W.call1 rfl (high_ps _) rfl) rfl ?_ | (refine RGo.g_store ?_; refine RGo.goS ?_) | (refine RGo.g_append ?_; refine RGo.goA ?_) | (refine RGo.g_alloc ?_; refine RGo.goR ?_) | (refine RGo.g_box ?_; refine RGo.goR ?_) | refine RGo.go ?_) | (refine RGo.gQ ?_; first | refine RGo.p (W.call1 rfl (high_ps _) rfl) rfl ?_ | (refine RGo.g_store ?_; refine RGo.goS ?_) | (refine RGo.g_append ?_; refine RGo.goA ?_) | (refine RGo.g_alloc ?_; refine RGo.goR ?_) | (refine RGo.g_box ?_; refine RGo.goR ?_) | refine RGo.go ?_ | refine RGo.goN ?_ | refine RGo.goQ1 ?_ | refine RGo.goQ2 ?_ | refine RGo.goQ3 ?_) | refine RGo.nil (by kernel_rfl) ?_))
  (repeat (first | (refine AOps.gN ?_; first | (refine AOps.g_store ?_; refine AOps.goS ?_) | (refine AOps.g_alloc ?_; refine AOps.goF fun X => ?_) | (refine AOps.g_box ?_; refine AOps.goF fun X => ?_) | (refine AOps.g_append ?_; refine AOps.goA fun Y => ?_) | refine AOps.go ?_) | (refine AOps.gQ ?_; first | refine AOps.met ?_ | refine AOps.goN ?_ | refine AOps.goQ1 ?_ | refine AOps.goQ2 ?_ | refine AOps.goQ3 ?_) | refine AOps.nil ?_ | refine AWP.seq ?_ | refine AWP.region ?_ | refine AWP.skip ?_ | refine AWP.block ?_ | refine AWP.exit ?_ | refine andThen_n ?_ | refine inB_n ?_ | refine andThen_e ?_ | refine inB_e ?_ | refine inB_ne rfl ?_))
  (refine AWP.ret ?_; (repeat (first | refine inB_r ?_ | refine andThen_r ?_)); refine retQ_r ?_)
  refine Ends.plain rfl rfl (by (repeat (first | exact List.Sublist.refl _ | exact List.Sublist.slnil | apply List.Sublist.cons_cons | apply List.Sublist.cons))) ⟨?_, rfl⟩
  rw [show nearOf f v = max f.low (min v (highOf f)) from by simp [nearOf, hb]]
  simp only [Int.max_def, Int.min_def]
  congr 2
  (repeat' split) <;> omega
end Go.Proofs.Ytcfleoaldoebhaa
