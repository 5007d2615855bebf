/- The walk of the law QuerySplits over abstract values. -/
import Derived.Test.YtcfleoaldoebhaaAbs26
import Derived.Test.YtcfleoaldoebhaaAQa
import Derived.Test.YtcfleoaldoebhaaMakeWL
import Derived.Test.YtcfleoaldoebhaaAKe
import Derived.Test.YtcfleoaldoebhaaBrg
namespace Go.Proofs.Ytcfleoaldoebhaa
set_option linter.unusedVariables false
open Go.RowKit
theorem allTo_cnt (l : List Item) (wth wout : List Int) : ∀ i, i ≤ l.length → (allTo l wth wout i).length = (l.take i).countP fun it => matchOf it wth wout := by
  intro i
  induction i with
  | zero => intro _; rfl
  | succ i ih =>
    intro hi
    have h : i < l.length := hi
    rw [List.take_succ_eq_append_getElem h, List.countP_append]
    cases hm : matchOf l[i] wth wout
    · rw [allTo_no h hm, ih (by omega)]; simp [hm]
    · rw [allTo_yes h hm, List.length_append, ih (by omega)]; simp [hm]
theorem allOf_cnt (l : List Item) (wth wout : List Int) : (allOf l wth wout).length = l.countP fun it => matchOf it wth wout := by
  rw [allOf, allTo_cnt _ _ _ _ (Nat.le_refl _), List.take_length]
theorem match_with (it : Item) (wth wout : List Int) (k : Int) : matchOf it (wth ++ [k]) wout = (matchOf it wth wout && hasK it.comps k) := by
  unfold matchOf
  rw [List.any_append]
  simp only [List.any_cons, List.any_nil, Bool.or_false]
  generalize (wth.any fun k => !hasK it.comps k) = a
  generalize (wout.any fun k => hasK it.comps k) = b
  generalize hasK it.comps k = c
  cases a <;> cases b <;> cases c <;> rfl
theorem match_wout (it : Item) (wth wout : List Int) (k : Int) : matchOf it wth (wout ++ [k]) = (matchOf it wth wout && !hasK it.comps k) := by
  unfold matchOf
  rw [List.any_append]
  simp only [List.any_cons, List.any_nil, Bool.or_false]
  generalize (wth.any fun k => !hasK it.comps k) = a
  generalize (wout.any fun k => hasK it.comps k) = b
  generalize hasK it.comps k = c
  cases a <;> cases b <;> cases c <;> rfl
theorem split_cnt (l : List Item) (wth wout : List Int) (k : Int) : (allOf l (wth ++ [k]) wout).length + (allOf l wth (wout ++ [k])).length = (allOf l wth wout).length := by
  rw [allOf_cnt, allOf_cnt, allOf_cnt]
  induction l with
  | nil => rfl
  | cons it l ih =>
    simp only [List.countP_cons, match_with, match_wout] at ih ⊢
    cases matchOf it wth wout <;> cases hasK it.comps k <;> simp <;> omega
theorem querySplits_ps (l wth wout : List Int) (k : Int) (h1 : wth.length * 8 ≤ 140737488351232) (h2 : wout.length * 8 ≤ 140737488351232) : PS Try.prog 4 [intsA false l, intsA false wth, intsA false wout, iA k] (bA true) := by
  refine Spec.of (nt := 44) (res := [.tmp 8]) Try.func4 rfl (by kernel_rfl) rfl rfl rfl fun Sf => ?_
  obtain ⟨w, hw⟩ : ∃ w, genWorld l = w := ⟨_, rfl⟩
  have hs := genWorld_small l
  have hwp := world_ps l
  rw [hw] at hs hwp
  obtain ⟨hs1, _, hs2⟩ := hs
  have hit : ∀ it ∈ w.items, it.comps.length ≤ 1099511627776 ∧ ∀ c ∈ it.comps, c.vals.length ≤ 1099511627776 := fun it hi => ⟨by have := (hs2 it hi).1; omega, fun c hc => by have := (hs2 it hi).2 c hc; omega⟩
  have hcb : PS Try.prog 17 [wdA false baseWd, intsA false [0], .prim (.slice none 0 0)] (iA 1) := (count_ps baseWd [0] [] (by decide) (by decide) (by decide) (by decide)).arg
  obtain ⟨k5, hk5⟩ : ∃ k5, k % 5 = k5 := ⟨_, rfl⟩
  have hbl := below_ps k 5 (by decide) (by decide)
  rw [hk5] at hbl
  have hc1 := count_ps w (wth ++ [k5]) wout (by omega) hit (by simp; omega) (by omega)
  have hc2 := count_ps w wth (wout ++ [k5]) (by omega) hit (by omega) (by simp; omega)
  have hc3 := count_ps w wth wout (by omega) hit (by omega) (by omega)
  have hsp := split_cnt w.items wth wout k5
  have hl3 := allOf_len w.items wth wout
  obtain ⟨n1, hn1⟩ : ∃ n, (allOf w.items (wth ++ [k5]) wout).length = n := ⟨_, rfl⟩
  obtain ⟨n2, hn2⟩ : ∃ n, (allOf w.items wth (wout ++ [k5])).length = n := ⟨_, rfl⟩
  obtain ⟨n3, hn3⟩ : ∃ n, (allOf w.items wth wout).length = n := ⟨_, rfl⟩
  rw [hn1] at hc1 hsp
  rw [hn2] at hc2 hsp
  rw [hn3] at hc3 hsp hl3
  have hq1 := cloneI_ps wth (by omega)
  have hq2 := cloneI_ps wout (by omega)
  (repeat (first | (refine AOps.gN ?_; first | (refine AOps.g_callf ?_; first | refine AOps.c1 (h := (hwp ..)) (k := ?_) | refine AOps.c0 (h := (base_ps ..)) (k := ?_) | refine AOps.c3 (h := (hcb ..)) (k := ?_) | refine AOps.c2 (h := (hbl ..)) (k := ?_)) | (refine AOps.g_store ?_; refine AOps.goS ?_) | (refine AOps.g_alloc ?_; refine AOps.goF fun X => ?_) | (refine AOps.g_box ?_; refine AOps.goF fun X => ?_) | (refine AOps.g_append ?_; refine AOps.goA fun Y => ?_) | refine AOps.go ?_) | (refine AOps.gQ ?_; first | refine AOps.met ?_ | refine AOps.goN ?_ | refine AOps.goQ1 ?_ | refine AOps.goQ2 ?_ | refine AOps.goQ3 ?_) | refine AOps.nil ?_ | refine AWP.seq ?_ | refine AWP.region ?_ | refine AWP.skip ?_ | refine AWP.block ?_ | refine AWP.exit ?_ | refine andThen_n ?_ | refine inB_n ?_ | refine andThen_e ?_ | refine inB_e ?_ | refine inB_ne rfl ?_))
  refine AWP.cond_f rfl rfl ?_
  (repeat (first | (refine AOps.gN ?_; first | (refine AOps.g_callf ?_; first | refine AOps.c2 (h := (hbl ..)) (k := ?_)) | (refine AOps.g_store ?_; refine AOps.goS ?_) | (refine AOps.g_alloc ?_; refine AOps.goF fun X => ?_) | (refine AOps.g_box ?_; refine AOps.goF fun X => ?_) | (refine AOps.g_append ?_; refine AOps.goA fun Y => ?_) | refine AOps.go ?_) | (refine AOps.gQ ?_; first | refine AOps.met ?_ | refine AOps.goN ?_ | refine AOps.goQ1 ?_ | refine AOps.goQ2 ?_ | refine AOps.goQ3 ?_) | refine AOps.nil ?_ | refine AWP.seq ?_ | refine AWP.region ?_ | refine AWP.skip ?_ | refine AWP.block ?_ | refine AWP.exit ?_ | refine andThen_n ?_ | refine inB_n ?_ | refine andThen_e ?_ | refine inB_e ?_ | refine inB_ne rfl ?_))
  refine AWP.rs fun Y1 => AWP.rs fun Y2 => ?_
  (repeat (first | refine AWP.seq ?_ | refine AWP.skip ?_ | refine AWP.block ?_ | refine AWP.exit ?_ | refine andThen_n ?_ | refine inB_n ?_ | refine andThen_e ?_ | refine inB_e ?_ | refine inB_ne rfl ?_)); refine AWP.region_tail 7 (by kernel_rfl) (by kernel_rfl) (by kernel_rfl) ?_; dsimp only [List.take, List.drop]; (repeat (first | (refine RGo.gN ?_; first | refine RGo.t1 (h := hq1) ?_ | (refine RGo.g_store ?_; refine RGo.goS ?_) | (refine RGo.g_append ?_; refine RGo.goA ?_) | (refine RGo.g_alloc ?_; refine RGo.goR ?_) | (refine RGo.g_box ?_; refine RGo.goR ?_) | refine RGo.go ?_) | (refine RGo.gQ ?_; first | refine RGo.t1 (h := hq1) ?_ | (refine RGo.g_store ?_; refine RGo.goS ?_) | (refine RGo.g_append ?_; refine RGo.goA ?_) | (refine RGo.g_alloc ?_; refine RGo.goR ?_) | (refine RGo.g_box ?_; refine RGo.goR ?_) | refine RGo.go ?_ | refine RGo.goN ?_ | refine RGo.goQ1 ?_ | refine RGo.goQ2 ?_ | refine RGo.goQ3 ?_) | refine RGo.nil (by kernel_rfl) ?_))
  refine AOps.iceL 25 ((wth ++ [k5]).map iA) ?_ ?_
  · rw [List.map_append, frzs_app, frzs_same _ fun _ => rfl]; rfl
  (repeat (first | (refine AOps.gN ?_; first | (refine AOps.g_callf ?_; first | refine AOps.c3 (h := (hc1 ..)) (k := ?_)) | (refine AOps.g_store ?_; refine AOps.goS ?_) | (refine AOps.g_alloc ?_; refine AOps.goF fun X => ?_) | (refine AOps.g_box ?_; refine AOps.goF fun X => ?_) | (refine AOps.g_append ?_; refine AOps.goA fun Y => ?_) | refine AOps.go ?_) | (refine AOps.gQ ?_; first | refine AOps.met ?_ | refine AOps.goN ?_ | refine AOps.goQ1 ?_ | refine AOps.goQ2 ?_ | refine AOps.goQ3 ?_) | refine AOps.nil ?_ | refine AWP.seq ?_ | refine AWP.region ?_ | refine AWP.skip ?_ | refine AWP.block ?_ | refine AWP.exit ?_ | refine andThen_n ?_ | refine inB_n ?_ | refine andThen_e ?_ | refine inB_e ?_ | refine inB_ne rfl ?_))
  refine AWP.rs fun Z1 => AWP.rs fun Z2 => ?_
  (repeat (first | refine AWP.seq ?_ | refine AWP.skip ?_ | refine AWP.block ?_ | refine AWP.exit ?_ | refine andThen_n ?_ | refine inB_n ?_ | refine andThen_e ?_ | refine inB_e ?_ | refine inB_ne rfl ?_)); refine AWP.region_tail 7 (by kernel_rfl) (by kernel_rfl) (by kernel_rfl) ?_; dsimp only [List.take, List.drop]; (repeat (first | (refine RGo.gN ?_; first | refine RGo.t1 (h := hq2) ?_ | (refine RGo.g_store ?_; refine RGo.goS ?_) | (refine RGo.g_append ?_; refine RGo.goA ?_) | (refine RGo.g_alloc ?_; refine RGo.goR ?_) | (refine RGo.g_box ?_; refine RGo.goR ?_) | refine RGo.go ?_) | (refine RGo.gQ ?_; first | refine RGo.t1 (h := hq2) ?_ | (refine RGo.g_store ?_; refine RGo.goS ?_) | (refine RGo.g_append ?_; refine RGo.goA ?_) | (refine RGo.g_alloc ?_; refine RGo.goR ?_) | (refine RGo.g_box ?_; refine RGo.goR ?_) | refine RGo.go ?_ | refine RGo.goN ?_ | refine RGo.goQ1 ?_ | refine RGo.goQ2 ?_ | refine RGo.goQ3 ?_) | refine RGo.nil (by kernel_rfl) ?_))
  refine AOps.iceL 34 ((wout ++ [k5]).map iA) ?_ ?_
  · rw [List.map_append, frzs_app, frzs_same _ fun _ => rfl]; rfl
  (repeat (first | (refine AOps.gN ?_; first | (refine AOps.g_callf ?_; first | refine AOps.c3 (h := (hc2 ..)) (k := ?_) | refine AOps.c3 (h := (hc3 ..)) (k := ?_)) | (refine AOps.g_store ?_; refine AOps.goS ?_) | (refine AOps.g_alloc ?_; refine AOps.goF fun X => ?_) | (refine AOps.g_box ?_; refine AOps.goF fun X => ?_) | (refine AOps.g_append ?_; refine AOps.goA fun Y => ?_) | refine AOps.go ?_) | (refine AOps.gQ ?_; first | refine AOps.met ?_ | refine AOps.goN ?_ | refine AOps.goQ1 ?_ | refine AOps.goQ2 ?_ | refine AOps.goQ3 ?_) | refine AOps.nil ?_ | refine AWP.seq ?_ | refine AWP.region ?_ | refine AWP.skip ?_ | refine AWP.block ?_ | refine AWP.exit ?_ | refine andThen_n ?_ | refine inB_n ?_ | refine andThen_e ?_ | refine inB_e ?_ | refine inB_ne rfl ?_))
  (refine AWP.ret ?_; (repeat (first | refine inB_r ?_ | refine andThen_r ?_)); refine retQ_r ?_); refine Ends.ps ?_
  rw [decide_eq_true (show ((n1 : Int) + n2 = n3) by omega)]
theorem querySplits_calls (l : List Int) (A0 : Option Addr) (n0 cap0 : Nat) (wth : List Int) (A1 : Option Addr) (n1 cap1 : Nat) (wout : List Int) (A2 : Option Addr) (n2 cap2 : Nat) (k : Int) (w : World) (hl : Ints w (Lt w) (.slice A0 n0 cap0) l) (hlen : l.length * 8 ≤ 140737488351232) (h1 : Ints w (Lt w) (.slice A1 n1 cap1) wth) (hlen1 : wth.length * 8 ≤ 140737488351232) (h2 : Ints w (Lt w) (.slice A2 n2 cap2) wout) (hlen2 : wout.length * 8 ≤ 140737488351232) (hx : I64 k) :
    Calls Try.prog 4 #[.slice A0 n0 cap0, .slice A1 n1 cap1, .slice A2 n2 cap2, .int .i64 k] w fun e w' => e = .returned (.bool true) ∧ Below w.heap.size w w' :=
  (querySplits_ps l wth wout k hlen1 hlen2).calls_bool (vts_ints hl (vts_ints h1 (vts_ints h2 (vts_int vts_nil))))
end Go.Proofs.Ytcfleoaldoebhaa
