/- The walks of package query over abstract values: All, Count. -/
import Derived.Test.YtcfleoaldoebhaaAQc
import Derived.Test.YtcfleoaldoebhaaAQm
import Derived.Test.YtcfleoaldoebhaaAbs23
namespace Go.Proofs.Ytcfleoaldoebhaa
set_option linter.unusedVariables false
/-- The items that match among the first i, with their indices. -/
def allTo (l : List Item) (wth wout : List Int) : Nat → List (Nat × Item)
  | 0 => []
  | i + 1 => allTo l wth wout i ++ (match l[i]? with
    | some it => match matchOf it wth wout with
      | true => [(i, it)]
      | false => []
    | none => [])
def allOf (l : List Item) (wth wout : List Int) : List (Nat × Item) := allTo l wth wout l.length
theorem allTo_yes {l : List Item} {wth wout : List Int} {i : Nat} (h : i < l.length) (hm : matchOf l[i] wth wout = true) : allTo l wth wout (i + 1) = allTo l wth wout i ++ [(i, l[i])] := by
  simp [allTo, List.getElem?_eq_getElem h, hm]
theorem allTo_no {l : List Item} {wth wout : List Int} {i : Nat} (h : i < l.length) (hm : matchOf l[i] wth wout = false) : allTo l wth wout (i + 1) = allTo l wth wout i := by
  simp [allTo, List.getElem?_eq_getElem h, hm]
theorem allTo_len (l : List Item) (wth wout : List Int) (i : Nat) : (allTo l wth wout i).length ≤ i := by
  induction i with
  | zero => simp [allTo]
  | succ i ih =>
    rw [allTo, List.length_append]
    split
    · split <;> simp <;> omega
    · simp; omega
def rowA (q : Nat × Item) : AV := .agg [iA q.1, iA q.2.ent.n, iA q.2.ent.gen, compsA false false q.2.comps]
instance {q : Nat × Item} : Frz (rowA q) (rowA q) := ⟨by
  show AV.agg [_, _, _, (compsA false false q.2.comps).frz] = _
  rw [show (compsA false false q.2.comps).frz = compsA false false q.2.comps from Frz.h]
  rfl⟩
abbrev rowsA (l : List (Nat × Item)) : AV := .lst false 123 4 (l.map rowA)
theorem all_ps (w : Wd) (wth wout : List Int) (h0 : w.items.length ≤ 1099511627776) (hl : ∀ it ∈ w.items, it.comps.length ≤ 1099511627776 ∧ ∀ c ∈ it.comps, c.vals.length ≤ 1099511627776) (h1 : wth.length ≤ 4611686018427387904) (h2 : wout.length ≤ 4611686018427387904) :
    PS Try.prog 45 [wdA false w, intsA false wth, intsA false wout] (.fn 66 [.fp [rowsA (allOf w.items wth wout)]]) := by
  refine Spec.of (nt := 35) (res := [.tmp 6]) Try.func45 rfl (by kernel_rfl) rfl rfl rfl fun Sf => ?_
  (repeat (first | refine AWP.seq ?_ | refine AWP.skip ?_ | refine AWP.block ?_ | refine AWP.exit ?_ | refine andThen_n ?_ | refine inB_n ?_ | refine andThen_e ?_ | refine inB_e ?_ | refine inB_ne rfl ?_)); refine AWP.region ?_; (repeat (first | (refine AOps.gN ?_; first | (refine AOps.g_box ?_; refine AOps.goB ?_) | (refine AOps.g_store ?_; refine AOps.goS ?_) | (refine AOps.g_alloc ?_; refine AOps.goF fun X => ?_) | (refine AOps.g_box ?_; refine AOps.goF fun X => ?_) | (refine AOps.g_append ?_; refine AOps.goA fun Y => ?_) | refine AOps.go ?_) | (refine AOps.gQ ?_; first | refine AOps.met ?_ | refine AOps.goN ?_ | refine AOps.goQ1 ?_ | refine AOps.goQ2 ?_ | refine AOps.goQ3 ?_))); refine AOps.nil ?_; (repeat (first | refine andThen_n ?_ | refine inB_n ?_ | refine andThen_e ?_ | refine inB_e ?_ | refine inB_ne rfl ?_))
  (repeat (first | refine AWP.seq ?_ | refine AWP.skip ?_ | refine AWP.block ?_ | refine AWP.exit ?_ | refine andThen_n ?_ | refine inB_n ?_ | refine andThen_e ?_ | refine inB_e ?_ | refine inB_ne rfl ?_)); refine AWP.region ?_; (repeat (first | (refine AOps.gN ?_; first | (refine AOps.g_store ?_; refine AOps.goS ?_) | (refine AOps.g_alloc ?_; refine AOps.goF fun X => ?_) | (refine AOps.g_box ?_; refine AOps.goF fun X => ?_) | (refine AOps.g_append ?_; refine AOps.goA fun Y => ?_) | refine AOps.go ?_) | (refine AOps.gQ ?_; first | refine AOps.met ?_ | refine AOps.goN ?_ | refine AOps.goQ1 ?_ | refine AOps.goQ2 ?_ | refine AOps.goQ3 ?_))); refine AOps.nil ?_; (repeat (first | refine andThen_n ?_ | refine inB_n ?_ | refine andThen_e ?_ | refine inB_e ?_ | refine inB_ne rfl ?_))
  refine AWP.adoptIn 123 4 .here (fun K => .cons (.base .nil) .nil) fun K => ?_
  (repeat (first | (refine AOps.gN ?_; first | (refine AOps.g_store ?_; refine AOps.goS ?_) | (refine AOps.g_alloc ?_; refine AOps.goF fun X => ?_) | (refine AOps.g_box ?_; refine AOps.goF fun X => ?_) | (refine AOps.g_append ?_; refine AOps.goA fun Y => ?_) | refine AOps.go ?_) | (refine AOps.gQ ?_; first | refine AOps.met ?_ | refine AOps.goN ?_ | refine AOps.goQ1 ?_ | refine AOps.goQ2 ?_ | refine AOps.goQ3 ?_) | refine AOps.nil ?_ | refine AWP.seq ?_ | refine AWP.region ?_ | refine AWP.skip ?_ | refine AWP.block ?_ | refine AWP.exit ?_ | refine andThen_n ?_ | refine inB_n ?_ | refine andThen_e ?_ | refine inB_e ?_ | refine inB_ne rfl ?_))
  refine AWP.lp4 (fun (i K : Nat) (M : List AV) (n : Nat) => ⟨[(1, intsA false wth), (2, intsA false wout), (7, .ptr X 0 0), (11, itemsA false false w.items), (12, iA (w.items.map (itemA false)).length), (13, iA i)], (K, .row 123 4 M) :: (X, .row 119 1 [.sl K 0 n]) :: Sf⟩) (fun i _ M n => i ≤ w.items.length ∧ M = (allTo w.items wth wout i).map rowA ∧ n = M.length) (fun i _ _ _ => w.items.length - i) 0 K [] 0 ⟨Nat.zero_le _, rfl, rfl⟩ ?_
  rintro i K M n ⟨hi, hM, hn⟩
  (repeat (first | (refine AOps.gN ?_; first | (refine AOps.g_store ?_; refine AOps.goS ?_) | (refine AOps.g_alloc ?_; refine AOps.goF fun X => ?_) | (refine AOps.g_box ?_; refine AOps.goF fun X => ?_) | (refine AOps.g_append ?_; refine AOps.goA fun Y => ?_) | refine AOps.go ?_) | (refine AOps.gQ ?_; first | refine AOps.met ?_ | refine AOps.goN ?_ | refine AOps.goQ1 ?_ | refine AOps.goQ2 ?_ | refine AOps.goQ3 ?_) | refine AOps.nil ?_ | refine AWP.seq ?_ | refine AWP.region ?_ | refine AWP.skip ?_ | refine AWP.block ?_ | refine AWP.exit ?_ | refine andThen_n ?_ | refine inB_n ?_ | refine andThen_e ?_ | refine inB_e ?_ | refine inB_ne rfl ?_))
  refine AWP.cond rfl (fun hc => ?_) (fun hc => ?_)
  · have h : i < w.items.length := by simpa using hc
    have hn1 : n + 1 ≤ 1099511627776 := by have := allTo_len w.items wth wout i; rw [hn, hM, List.length_map]; omega
    obtain ⟨hc1, hc2⟩ := hl _ (List.getElem_mem h)
    obtain ⟨b, hb⟩ : ∃ b, matchOf w.items[i] wth wout = b := ⟨_, rfl⟩
    have hm := match_ps w.items[i] wth wout (by omega) h1 h2
    rw [hb] at hm
    (repeat (first | (refine AOps.gN ?_; first | (refine AOps.g_callf ?_; first | refine AOps.c3 (h := (hm ..)) (k := ?_)) | (refine AOps.g_store ?_; refine AOps.goS ?_) | (refine AOps.g_alloc ?_; refine AOps.goF fun X => ?_) | (refine AOps.g_box ?_; refine AOps.goF fun X => ?_) | (refine AOps.g_append ?_; refine AOps.goA fun Y => ?_) | refine AOps.go ?_) | (refine AOps.gQ ?_; first | refine AOps.met ?_ | refine AOps.goN ?_ | refine AOps.goQ1 ?_ | refine AOps.goQ2 ?_ | refine AOps.goQ3 ?_) | refine AOps.nil ?_ | refine AWP.seq ?_ | refine AWP.region ?_ | refine AWP.skip ?_ | refine AWP.block ?_ | refine AWP.exit ?_ | refine andThen_n ?_ | refine inB_n ?_ | refine andThen_e ?_ | refine inB_e ?_ | refine inB_ne rfl ?_))
    cases b
    · refine AWP.cond_f rfl rfl ?_
      (repeat (first | (refine AOps.gN ?_; first | (refine AOps.g_store ?_; refine AOps.goS ?_) | (refine AOps.g_alloc ?_; refine AOps.goF fun X => ?_) | (refine AOps.g_box ?_; refine AOps.goF fun X => ?_) | (refine AOps.g_append ?_; refine AOps.goA fun Y => ?_) | refine AOps.go ?_) | (refine AOps.gQ ?_; first | refine AOps.met ?_ | refine AOps.goN ?_ | refine AOps.goQ1 ?_ | refine AOps.goQ2 ?_ | refine AOps.goQ3 ?_) | refine AOps.nil ?_ | refine AWP.seq ?_ | refine AWP.region ?_ | refine AWP.skip ?_ | refine AWP.block ?_ | refine AWP.exit ?_ | refine andThen_n ?_ | refine inB_n ?_ | refine andThen_e ?_ | refine inB_e ?_ | refine inB_ne rfl ?_))
      refine lp_next4 (i + 1) K M n ⟨h, ?_, hn⟩
      rw [allTo_no h hb, hM]
    · refine AWP.cond_t rfl rfl ?_
      refine AWP.rs fun X7 => ?_
      (repeat (first | refine AWP.seq ?_ | refine AWP.skip ?_ | refine AWP.block ?_ | refine AWP.exit ?_ | refine andThen_n ?_ | refine inB_n ?_ | refine andThen_e ?_ | refine inB_e ?_ | refine inB_ne rfl ?_)); refine AWP.region_run (by kernel_rfl) (by kernel_rfl) ?_; (repeat (first | (refine RGo.gN ?_; first | (refine RGo.g_callf ?_; first | refine RGo.c1 (h := (copyComps_ps _ hc1 hc2)) (k := ?_)) | (refine RGo.g_lit ?_; refine RGo.goL (rowA (i, w.items[i])) ?_) | (refine RGo.g_store ?_; refine RGo.goS ?_) | (refine RGo.g_append ?_; refine RGo.goA ?_) | (refine RGo.g_alloc ?_; refine RGo.goR ?_) | (refine RGo.g_box ?_; refine RGo.goR ?_) | refine RGo.go ?_) | (refine RGo.gQ ?_; first | (refine RGo.g_callf ?_; first | refine RGo.c1 (h := (copyComps_ps _ hc1 hc2)) (k := ?_)) | (refine RGo.g_lit ?_; refine RGo.goL (rowA (i, w.items[i])) ?_) | (refine RGo.g_store ?_; refine RGo.goS ?_) | (refine RGo.g_append ?_; refine RGo.goA ?_) | (refine RGo.g_alloc ?_; refine RGo.goR ?_) | (refine RGo.g_box ?_; refine RGo.goR ?_) | refine RGo.go ?_ | refine RGo.goN ?_ | refine RGo.goQ1 ?_ | refine RGo.goQ2 ?_ | refine RGo.goQ3 ?_) | refine RGo.nil (by kernel_rfl) ?_))
      (repeat (first | (refine AOps.gN ?_; first | (refine AOps.g_store ?_; refine AOps.goS ?_) | (refine AOps.g_alloc ?_; refine AOps.goF fun X => ?_) | (refine AOps.g_box ?_; refine AOps.goF fun X => ?_) | (refine AOps.g_append ?_; refine AOps.goA fun Y => ?_) | refine AOps.go ?_) | (refine AOps.gQ ?_; first | refine AOps.met ?_ | refine AOps.goN ?_ | refine AOps.goQ1 ?_ | refine AOps.goQ2 ?_ | refine AOps.goQ3 ?_) | refine AOps.nil ?_ | refine AWP.seq ?_ | refine AWP.region ?_ | refine AWP.skip ?_ | refine AWP.block ?_ | refine AWP.exit ?_ | refine andThen_n ?_ | refine inB_n ?_ | refine andThen_e ?_ | refine inB_e ?_ | refine inB_ne rfl ?_))
      refine lp_next4 (i + 1) X7 _ _ ⟨h, ?_, ?_⟩
      · rw [allTo_yes h hb, hM, List.map_append]; rfl
      · rw [List.length_append, hn]
  · have h : i = w.items.length := by rw [decide_eq_false_iff_not, List.length_map] at hc; omega
    subst h
    (repeat (first | refine AOps.nil ?_ | refine AWP.seq ?_ | refine AWP.skip ?_ | refine AWP.block ?_ | refine AWP.exit ?_ | refine andThen_n ?_ | refine inB_n ?_ | refine andThen_e ?_ | refine inB_e ?_ | refine inB_ne rfl ?_))
    refine AWP.iceIn (X := K) .here (.next .here) rfl (.cons (.base (.sl (by omega))) .nil) ?_
    have hF : AV.frzs ((M.drop 0).take n) = (allOf w.items wth wout).map rowA := by
      rw [List.drop_zero, List.take_of_length_le (by omega), hM]
      exact Frzs.h
    rw [hF]
    refine AWP.iceP [7] (.next .here) ?_ (by intro d hd; simp only [List.mem_singleton] at hd; subst hd; rfl)
    (repeat (first | (refine AOps.gN ?_; first | (refine AOps.g_store ?_; refine AOps.goS ?_) | (refine AOps.g_alloc ?_; refine AOps.goF fun X => ?_) | (refine AOps.g_box ?_; refine AOps.goF fun X => ?_) | (refine AOps.g_append ?_; refine AOps.goA fun Y => ?_) | refine AOps.go ?_) | (refine AOps.gQ ?_; first | refine AOps.met ?_ | refine AOps.goN ?_ | refine AOps.goQ1 ?_ | refine AOps.goQ2 ?_ | refine AOps.goQ3 ?_) | refine AOps.nil ?_ | refine AWP.seq ?_ | refine AWP.region ?_ | refine AWP.skip ?_ | refine AWP.block ?_ | refine AWP.exit ?_ | refine andThen_n ?_ | refine inB_n ?_ | refine andThen_e ?_ | refine inB_e ?_ | refine inB_ne rfl ?_))
    (refine AWP.ret ?_; (repeat (first | refine inB_r ?_ | refine andThen_r ?_)); refine retQ_r ?_); refine Ends.ps ?_
    rfl
/-- All's iterator. -/
theorem all1_itr (l : List (Nat × Item)) (h0 : l.length ≤ 1099511627776) (hl : ∀ q ∈ l, q.2.comps.length ≤ 1099511627776 ∧ ∀ c ∈ q.2.comps, c.vals.length ≤ 1099511627776) : Itr Try.prog 66 [.fp [rowsA l]] (l.map fun q => [iA q.1, itemA false q.2]) := by
  refine ⟨by kernel_rfl, fun y J Jx hY Sl hJ0 => ?_⟩
  refine Spec.of (nt := 25) (res := []) Try.func66 rfl (by kernel_rfl) rfl rfl rfl fun Sf => ?_
  (repeat (first | refine AWP.seq ?_ | refine AWP.skip ?_ | refine AWP.block ?_ | refine AWP.exit ?_ | refine andThen_n ?_ | refine inB_n ?_ | refine andThen_e ?_ | refine inB_e ?_ | refine inB_ne rfl ?_)); refine AWP.region ?_; (repeat (first | (refine AOps.gN ?_; first | (refine AOps.g_store ?_; refine AOps.goS ?_) | (refine AOps.g_alloc ?_; refine AOps.goF fun X => ?_) | (refine AOps.g_box ?_; refine AOps.goF fun X => ?_) | (refine AOps.g_append ?_; refine AOps.goA fun Y => ?_) | refine AOps.go ?_) | (refine AOps.gQ ?_; first | refine AOps.met ?_ | refine AOps.goN ?_ | refine AOps.goQ1 ?_ | refine AOps.goQ2 ?_ | refine AOps.goQ3 ?_))); refine AOps.nil ?_; (repeat (first | refine andThen_n ?_ | refine inB_n ?_ | refine andThen_e ?_ | refine inB_e ?_ | refine inB_ne rfl ?_))
  (repeat (first | refine AOps.nil ?_ | refine AWP.seq ?_ | refine AWP.skip ?_ | refine AWP.block ?_ | refine AWP.exit ?_ | refine andThen_n ?_ | refine inB_n ?_ | refine andThen_e ?_ | refine inB_e ?_ | refine inB_ne rfl ?_))
  refine AWP.lp2 (fun (i : Nat) (Sl : List Slot) => ⟨[(0, .prim y), (5, rowsA l), (6, iA (l.map rowA).length), (7, iA i)], Sl ++ Sf⟩) (fun i Sl => i ≤ l.length ∧ J i Sl) (fun i _ => l.length - i) 0 Sl ⟨Nat.zero_le _, hJ0⟩ ?_
  rintro i Sl ⟨hi, hJ⟩
  (repeat (first | (refine AOps.gN ?_; first | (refine AOps.g_store ?_; refine AOps.goS ?_) | (refine AOps.g_alloc ?_; refine AOps.goF fun X => ?_) | (refine AOps.g_box ?_; refine AOps.goF fun X => ?_) | (refine AOps.g_append ?_; refine AOps.goA fun Y => ?_) | refine AOps.go ?_) | (refine AOps.gQ ?_; first | refine AOps.met ?_ | refine AOps.goN ?_ | refine AOps.goQ1 ?_ | refine AOps.goQ2 ?_ | refine AOps.goQ3 ?_) | refine AOps.nil ?_ | refine AWP.seq ?_ | refine AWP.region ?_ | refine AWP.skip ?_ | refine AWP.block ?_ | refine AWP.exit ?_ | refine andThen_n ?_ | refine inB_n ?_ | refine andThen_e ?_ | refine inB_e ?_ | refine inB_ne rfl ?_))
  refine AWP.cond rfl (fun hc => ?_) (fun hc => ?_)
  · have h : i < l.length := by simpa using hc
    obtain ⟨hc1, hc2⟩ := hl _ (List.getElem_mem h)
    (repeat (first | (refine AOps.gN ?_; first | (refine AOps.g_store ?_; refine AOps.goS ?_) | (refine AOps.g_alloc ?_; refine AOps.goF fun X => ?_) | (refine AOps.g_box ?_; refine AOps.goF fun X => ?_) | (refine AOps.g_append ?_; refine AOps.goA fun Y => ?_) | refine AOps.go ?_) | (refine AOps.gQ ?_; first | refine AOps.met ?_ | refine AOps.goN ?_ | refine AOps.goQ1 ?_ | refine AOps.goQ2 ?_ | refine AOps.goQ3 ?_) | refine AOps.nil ?_ | refine AWP.seq ?_ | refine AWP.region ?_ | refine AWP.skip ?_ | refine AWP.block ?_ | refine AWP.exit ?_ | refine andThen_n ?_ | refine inB_n ?_ | refine andThen_e ?_ | refine inB_e ?_ | refine inB_ne rfl ?_))
    (repeat (first | refine AWP.seq ?_ | refine AWP.skip ?_ | refine AWP.block ?_ | refine AWP.exit ?_ | refine andThen_n ?_ | refine inB_n ?_ | refine andThen_e ?_ | refine inB_e ?_ | refine inB_ne rfl ?_)); refine AWP.region_tail 11 (by kernel_rfl) (by kernel_rfl) (by kernel_rfl) ?_; dsimp only [List.take, List.drop]; (repeat (first | (refine RGo.gN ?_; first | (refine RGo.g_callf ?_; first | refine RGo.c1 (h := (copyComps_ps _ hc1 hc2)) (k := ?_)) | (refine RGo.g_store ?_; refine RGo.goS ?_) | (refine RGo.g_append ?_; refine RGo.goA ?_) | (refine RGo.g_alloc ?_; refine RGo.goR ?_) | (refine RGo.g_box ?_; refine RGo.goR ?_) | refine RGo.go ?_) | (refine RGo.gQ ?_; first | (refine RGo.g_callf ?_; first | refine RGo.c1 (h := (copyComps_ps _ hc1 hc2)) (k := ?_)) | (refine RGo.g_store ?_; refine RGo.goS ?_) | (refine RGo.g_append ?_; refine RGo.goA ?_) | (refine RGo.g_alloc ?_; refine RGo.goR ?_) | (refine RGo.g_box ?_; refine RGo.goR ?_) | refine RGo.go ?_ | refine RGo.goN ?_ | refine RGo.goQ1 ?_ | refine RGo.goQ2 ?_ | refine RGo.goQ3 ?_) | refine RGo.nil (by kernel_rfl) ?_))
    refine AOps.sub (S' := Sl ++ Sf) (by (repeat (first | exact List.Sublist.refl _ | exact List.Sublist.slnil | apply List.Sublist.cons_cons | apply List.Sublist.cons))) ?_
    refine AOps.yield2 (Si := []) hY hJ (show (l.map fun q => [iA q.1, itemA false q.2])[i]? = some [iA l[i].1, itemA false l[i].2] by simp [h]) (fun Sl' hk => ?_) (fun Sl' hk => ?_)
    · (repeat (first | (refine AOps.gN ?_; first | (refine AOps.g_store ?_; refine AOps.goS ?_) | (refine AOps.g_alloc ?_; refine AOps.goF fun X => ?_) | (refine AOps.g_box ?_; refine AOps.goF fun X => ?_) | (refine AOps.g_append ?_; refine AOps.goA fun Y => ?_) | refine AOps.go ?_) | (refine AOps.gQ ?_; first | refine AOps.met ?_ | refine AOps.goN ?_ | refine AOps.goQ1 ?_ | refine AOps.goQ2 ?_ | refine AOps.goQ3 ?_) | refine AOps.nil ?_ | refine AWP.seq ?_ | refine AWP.region ?_ | refine AWP.skip ?_ | refine AWP.block ?_ | refine AWP.exit ?_ | refine andThen_n ?_ | refine inB_n ?_ | refine andThen_e ?_ | refine inB_e ?_ | refine inB_ne rfl ?_))
      refine AWP.cond_f rfl rfl ?_
      (repeat (first | (refine AOps.gN ?_; first | (refine AOps.g_store ?_; refine AOps.goS ?_) | (refine AOps.g_alloc ?_; refine AOps.goF fun X => ?_) | (refine AOps.g_box ?_; refine AOps.goF fun X => ?_) | (refine AOps.g_append ?_; refine AOps.goA fun Y => ?_) | refine AOps.go ?_) | (refine AOps.gQ ?_; first | refine AOps.met ?_ | refine AOps.goN ?_ | refine AOps.goQ1 ?_ | refine AOps.goQ2 ?_ | refine AOps.goQ3 ?_) | refine AOps.nil ?_ | refine AWP.seq ?_ | refine AWP.region ?_ | refine AWP.skip ?_ | refine AWP.block ?_ | refine AWP.exit ?_ | refine andThen_n ?_ | refine inB_n ?_ | refine andThen_e ?_ | refine inB_e ?_ | refine inB_ne rfl ?_))
      refine lp_next2 (i + 1) Sl' ⟨h, hk⟩
    · (repeat (first | (refine AOps.gN ?_; first | (refine AOps.g_store ?_; refine AOps.goS ?_) | (refine AOps.g_alloc ?_; refine AOps.goF fun X => ?_) | (refine AOps.g_box ?_; refine AOps.goF fun X => ?_) | (refine AOps.g_append ?_; refine AOps.goA fun Y => ?_) | refine AOps.go ?_) | (refine AOps.gQ ?_; first | refine AOps.met ?_ | refine AOps.goN ?_ | refine AOps.goQ1 ?_ | refine AOps.goQ2 ?_ | refine AOps.goQ3 ?_) | refine AOps.nil ?_ | refine AWP.seq ?_ | refine AWP.region ?_ | refine AWP.skip ?_ | refine AWP.block ?_ | refine AWP.exit ?_ | refine andThen_n ?_ | refine inB_n ?_ | refine andThen_e ?_ | refine inB_e ?_ | refine inB_ne rfl ?_))
      refine AWP.cond_t rfl rfl ?_
      (refine AWP.ret ?_; (repeat (first | refine inB_r ?_ | refine andThen_r ?_)); refine retQ_r ?_)
      exact Ends.void Sl' (.inr hk)
  · have h : i = l.length := by rw [decide_eq_false_iff_not, List.length_map] at hc; omega
    subst h
    (repeat (first | (refine AOps.gN ?_; first | (refine AOps.g_store ?_; refine AOps.goS ?_) | (refine AOps.g_alloc ?_; refine AOps.goF fun X => ?_) | (refine AOps.g_box ?_; refine AOps.goF fun X => ?_) | (refine AOps.g_append ?_; refine AOps.goA fun Y => ?_) | refine AOps.go ?_) | (refine AOps.gQ ?_; first | refine AOps.met ?_ | refine AOps.goN ?_ | refine AOps.goQ1 ?_ | refine AOps.goQ2 ?_ | refine AOps.goQ3 ?_) | refine AOps.nil ?_ | refine AWP.seq ?_ | refine AWP.region ?_ | refine AWP.skip ?_ | refine AWP.block ?_ | refine AWP.exit ?_ | refine andThen_n ?_ | refine inB_n ?_ | refine andThen_e ?_ | refine inB_e ?_ | refine inB_ne rfl ?_))
    refine retQ_n ?_
    exact Ends.void Sl (.inl (by rw [List.length_map]; exact hJ))
theorem allOf_len (l : List Item) (wth wout : List Int) : (allOf l wth wout).length ≤ l.length := allTo_len l wth wout l.length
theorem allTo_mem {l : List Item} {wth wout : List Int} {i : Nat} {q : Nat × Item} (h : q ∈ allTo l wth wout i) : q.2 ∈ l := by
  induction i with
  | zero => simp [allTo] at h
  | succ i ih =>
    rw [allTo, List.mem_append] at h
    rcases h with h | h
    · exact ih h
    · split at h
      · rename_i it hit
        split at h
        · simp only [List.mem_singleton] at h
          subst h
          exact List.mem_of_getElem? hit
        · cases h
      · cases h
theorem count_ps (w : Wd) (wth wout : List Int) (h0 : w.items.length ≤ 1099511627776) (hl : ∀ it ∈ w.items, it.comps.length ≤ 1099511627776 ∧ ∀ c ∈ it.comps, c.vals.length ≤ 1099511627776) (h1 : wth.length ≤ 4611686018427387904) (h2 : wout.length ≤ 4611686018427387904) :
    PS Try.prog 17 [wdA false w, intsA false wth, intsA false wout] (iA (allOf w.items wth wout).length) := by
  have hI := all1_itr (allOf w.items wth wout) (Nat.le_trans (allOf_len _ _ _) h0) (fun q hq => hl _ (allTo_mem hq))
  have hlen := allOf_len w.items wth wout
  refine Spec.of (nt := 17) (res := [.tmp 6]) Try.func17 rfl (by kernel_rfl) rfl rfl rfl fun Sf => ?_
  (repeat (first | refine AWP.seq ?_ | refine AWP.skip ?_ | refine AWP.block ?_ | refine AWP.exit ?_ | refine andThen_n ?_ | refine inB_n ?_ | refine andThen_e ?_ | refine inB_e ?_ | refine inB_ne rfl ?_)); refine AWP.region ?_; (repeat (first | (refine AOps.gN ?_; first | (refine AOps.g_box ?_; refine AOps.goB ?_) | (refine AOps.g_store ?_; refine AOps.goS ?_) | (refine AOps.g_alloc ?_; refine AOps.goF fun X => ?_) | (refine AOps.g_box ?_; refine AOps.goF fun X => ?_) | (refine AOps.g_append ?_; refine AOps.goA fun Y => ?_) | refine AOps.go ?_) | (refine AOps.gQ ?_; first | refine AOps.met ?_ | refine AOps.goN ?_ | refine AOps.goQ1 ?_ | refine AOps.goQ2 ?_ | refine AOps.goQ3 ?_))); refine AOps.nil ?_; (repeat (first | refine andThen_n ?_ | refine inB_n ?_ | refine andThen_e ?_ | refine inB_e ?_ | refine inB_ne rfl ?_))
  (repeat (first | refine AWP.seq ?_ | refine AWP.skip ?_ | refine AWP.block ?_ | refine AWP.exit ?_ | refine andThen_n ?_ | refine inB_n ?_ | refine andThen_e ?_ | refine inB_e ?_ | refine inB_ne rfl ?_)); refine AWP.region ?_; (repeat (first | (refine AOps.gN ?_; first | (refine AOps.g_store ?_; refine AOps.goS ?_) | (refine AOps.g_alloc ?_; refine AOps.goF fun X => ?_) | (refine AOps.g_box ?_; refine AOps.goF fun X => ?_) | (refine AOps.g_append ?_; refine AOps.goA fun Y => ?_) | refine AOps.go ?_) | (refine AOps.gQ ?_; first | refine AOps.met ?_ | refine AOps.goN ?_ | refine AOps.goQ1 ?_ | refine AOps.goQ2 ?_ | refine AOps.goQ3 ?_))); refine AOps.nil ?_; (repeat (first | refine andThen_n ?_ | refine inB_n ?_ | refine andThen_e ?_ | refine inB_e ?_ | refine inB_ne rfl ?_))
  (repeat (first | refine AWP.seq ?_ | refine AWP.skip ?_ | refine AWP.block ?_ | refine AWP.exit ?_ | refine andThen_n ?_ | refine inB_n ?_ | refine andThen_e ?_ | refine inB_e ?_ | refine inB_ne rfl ?_)); refine AWP.region ?_; (repeat (first | (refine AOps.gN ?_; first | (refine AOps.g_callf ?_; first | refine AOps.c3 (h := (all_ps w wth wout h0 hl h1 h2)) (k := ?_)) | (refine AOps.g_store ?_; refine AOps.goS ?_) | (refine AOps.g_alloc ?_; refine AOps.goF fun X => ?_) | (refine AOps.g_box ?_; refine AOps.goF fun X => ?_) | (refine AOps.g_append ?_; refine AOps.goA fun Y => ?_) | refine AOps.go ?_) | (refine AOps.gQ ?_; first | refine AOps.met ?_ | refine AOps.goN ?_ | refine AOps.goQ1 ?_ | refine AOps.goQ2 ?_ | refine AOps.goQ3 ?_))); refine AOps.nil ?_; (repeat (first | refine andThen_n ?_ | refine inB_n ?_ | refine andThen_e ?_ | refine inB_e ?_ | refine inB_ne rfl ?_))
  (repeat (first | refine AOps.nil ?_ | refine AWP.seq ?_ | refine AWP.skip ?_ | refine AWP.block ?_ | refine AWP.exit ?_ | refine andThen_n ?_ | refine inB_n ?_ | refine andThen_e ?_ | refine inB_e ?_ | refine inB_ne rfl ?_))
  refine AWP.rangeF (Sf := Sf) hI (fun n : Nat => [(X, .row 3 1 [iA n])]) (fun i n => n = i) 0 rfl ?_ ?_ rfl rfl rfl ?_ ?_
  · rintro i vs n l F1 F2 hi rfl
    have hn : n < (allOf w.items wth wout).length := by
      have := (List.getElem?_eq_some_iff.1 hi).1
      simpa using this
    rw [List.getElem?_map, List.getElem?_eq_getElem hn] at hi
    obtain rfl : _ = vs := Option.some.inj hi
    refine AWP.skip ⟨[(X, .row 3 1 [iA n])], .refl _, ?_⟩
    (repeat (first | (refine AOps.gN ?_; first | (refine AOps.g_store ?_; refine AOps.goS ?_) | (refine AOps.g_alloc ?_; refine AOps.goF fun X => ?_) | (refine AOps.g_box ?_; refine AOps.goF fun X => ?_) | (refine AOps.g_append ?_; refine AOps.goA fun Y => ?_) | refine AOps.go ?_) | (refine AOps.gQ ?_; first | refine AOps.met ?_ | refine AOps.goN ?_ | refine AOps.goQ1 ?_ | refine AOps.goQ2 ?_ | refine AOps.goQ3 ?_) | refine AOps.nil ?_ | refine AWP.seq ?_ | refine AWP.region ?_ | refine AWP.skip ?_ | refine AWP.block ?_ | refine AWP.exit ?_ | refine andThen_n ?_ | refine inB_n ?_ | refine andThen_e ?_ | refine inB_e ?_ | refine inB_ne rfl ?_))
    exact ⟨[(X, .row 3 1 [iA (n + 1)])], .refl _, n + 1, rfl, rfl⟩
  · intro n hn
    (repeat (first | (refine AOps.gN ?_; first | (refine AOps.g_store ?_; refine AOps.goS ?_) | (refine AOps.g_alloc ?_; refine AOps.goF fun X => ?_) | (refine AOps.g_box ?_; refine AOps.goF fun X => ?_) | (refine AOps.g_append ?_; refine AOps.goA fun Y => ?_) | refine AOps.go ?_) | (refine AOps.gQ ?_; first | refine AOps.met ?_ | refine AOps.goN ?_ | refine AOps.goQ1 ?_ | refine AOps.goQ2 ?_ | refine AOps.goQ3 ?_) | refine AOps.nil ?_ | refine AWP.seq ?_ | refine AWP.region ?_ | refine AWP.skip ?_ | refine AWP.block ?_ | refine AWP.exit ?_ | refine andThen_n ?_ | refine inB_n ?_ | refine andThen_e ?_ | refine inB_e ?_ | refine inB_ne rfl ?_))
    (refine AWP.ret ?_; (repeat (first | refine inB_r ?_ | refine andThen_r ?_)); refine retQ_r ?_); refine Ends.ps ?_
    rw [show n = (allOf w.items wth wout).length by simpa using hn]
  · intro vs hvs
    obtain ⟨q, _, rfl⟩ := List.mem_map.1 hvs
    rfl
  · exact .refl _
end Go.Proofs.Ytcfleoaldoebhaa
