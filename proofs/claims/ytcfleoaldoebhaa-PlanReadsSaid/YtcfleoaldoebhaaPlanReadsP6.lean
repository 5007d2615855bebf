/-
  Part 6 of the texts under the law PlanReads: the layer of abstract values, walks and plain laws. Conditions: those that each theorem names.
-/
import Derived.Test.YtcfleoaldoebhaaPlanReadsP5
namespace Go.Proofs.Ytcfleoaldoebhaa
set_option linter.unusedVariables false
open Go.RowKit
theorem hits_comm (x y : List Int) : hits x y = hits y x := by
  have : ∀ x y : List Int, hits x y = true → hits y x = true := fun x y h => by
    unfold hits at h ⊢
    obtain ⟨k, hk, h⟩ := List.any_eq_true.1 h
    exact List.any_eq_true.2 ⟨k, by simpa using h, by simpa using hk⟩
  cases h : hits x y
  · cases h2 : hits y x
    · rfl
    · rw [this _ _ h2] at h; cases h
  · exact (this _ _ h).symm
theorem confl_comm (a b : Sys) : confl a b = confl b a := by
  unfold confl
  rw [hits_comm a.writes b.writes, hits_comm a.writes b.reads, hits_comm a.reads b.writes, Bool.or_assoc, Bool.or_assoc, Bool.or_comm (hits b.reads a.writes)]
theorem confl_none {a b : Sys} (ha : a.writes = []) (hb : b.writes = []) : confl a b = false := by
  have h : ∀ x : List Int, hits x [] = false := fun x => by simp [hits]
  unfold confl
  rw [ha, hb, h, h]
  rfl
theorem confAt_none {ls : List Sys} (h : ∀ s ∈ ls, s.writes = []) (j i : Nat) : confAt ls j i = false := by
  unfold confAt
  split
  · rename_i a b ha hb
    exact confl_none (h _ (List.mem_of_getElem? ha)) (h _ (List.mem_of_getElem? hb))
  · rfl
theorem depL_none {ls : List Sys} (h : ∀ s ∈ ls, s.writes = []) (i : Nat) : depL ls i = List.replicate i 1 := by
  have ha : ∀ pre i j, accTo ls pre i j = 1 := by
    intro pre i j
    induction j with
    | zero => rfl
    | succ j ih => rw [accTo, confAt_none h]; exact ih
  induction i with
  | zero => rfl
  | succ i ih => rw [depL, ih, ha, List.replicate_succ']
theorem layTo_ones (n : Nat) : ∀ i, i ≤ n → (layTo (List.replicate n 1) i).length = min i 1 := by
  intro i
  induction i with
  | zero => intro _; rfl
  | succ i ih =>
    intro hi
    have := ih (by omega)
    rw [layTo, List.getElem?_replicate, if_pos (by omega)]
    simp only [List.length_modify, List.length_append, List.length_replicate]
    omega
theorem SysOK.sm {ks : List Kind} {n : Nat} {s : Sys} (h : SysOK ks n s) (hk : KindsOK ks) : SysSm s := by
  have := hk.1
  have h3 := pw_len h.lists.o3 (fun x hx => h.lists.r1 x (h.lists.s3 x hx)) (by omega)
  have h4 := pw_len h.lists.o4 (fun x hx => h.lists.r1 x (h.lists.s4 x hx)) (by omega)
  exact ⟨by omega, by omega⟩
theorem genKinds_ne (l : List Int) : (genKinds l).1 ≠ [] ∧ ∀ k ∈ (genKinds l).1, k.fields ≠ [] := by
  have h := nextV_range l (n := 4) (by decide)
  refine ⟨fun e => ?_, ?_⟩
  · have := genKinds_cnt l
    rw [e] at this
    simp at this
    omega
  · rw [genKinds_at]
    intro k hk
    have : ∀ i q, ∀ k ∈ (kAt i q).1, k.fields ≠ [] := by
      intro i q
      induction i with
      | zero => intro k hk; cases hk
      | succ i ih =>
        intro k hk
        rcases List.mem_append.1 hk with hk | hk
        · exact ih k hk
        · rw [List.mem_singleton.1 hk]
          show (genFields 0 (1 + nextV (kAt i q).2 3).toNat (nextL (kAt i q).2 3)).1 ≠ []
          have h3 := nextV_range (kAt i q).2 (n := 3) (by decide)
          rw [genFields_at]
          intro e
          have := congrArg List.length e
          rw [fAt_len] at this
          simp at this
          omega
    exact this _ _ k hk
theorem planReads_ps (l m : List Int) : PS Try.prog 7 [intsA false l, intsA false m] (bA true) := by
  refine Spec.of (nt := 73) (res := [.tmp 4]) Try.func7 rfl (by kernel_rfl) rfl rfl rfl fun Sf => ?_
  have hko := genKinds_rng l
  obtain ⟨hk0, hkf⟩ := genKinds_ne l
  have hkE := kindsE_ps l
  obtain ⟨ks, hks⟩ : ∃ ks, (genKinds l).1 = ks := ⟨_, rfl⟩
  rw [hks] at hko hk0 hkf hkE
  have hsp := systems_sp ks m hko hkf hk0
  (repeat (first | (refine AOps.gN ?_; first | (refine AOps.g_callf ?_; first | refine AOps.c0 (h := (layered_ps ..)) (k := ?_))) | refine WK ?_ | refine All.i fun X => ?_ | refine AllY.i fun Y => ?_))
  refine AWP.cond_f rfl rfl ?_
  (repeat refine WF ?_); refine AWP.region ?_; (repeat (first | (refine AOps.gN ?_; first | (refine AOps.g_callf ?_; first | refine AOps.c1 (h := (hkE ..)) (k := ?_))) | refine WO ?_ | refine All.i fun X => ?_ | refine AllY.i fun Y => ?_))
  refine AOps.et2 (h := hsp) fun ss hss Y => ?_
  have hsm : ∀ s ∈ ss, SysSm s := fun s hs => by
    obtain ⟨i, hi, rfl⟩ := List.getElem_of_mem hs
    exact (hss.2 i hi).sm hko
  have hn5 := hss.1
  have hlm : (ss.map (sysA false)).length = ss.length := List.length_map _
  (repeat (first | refine WK ?_ | refine All.i fun X => ?_ | refine AllY.i fun Y => ?_))
  refine AWP.lp (fun i : Nat => ⟨[(5, .sl Y 0 (ss.map (sysA false)).length), (18, iA (ss.map (sysA false)).length), (19, iA i)], (Y, .row 72 7 (ss.map (sysA false))) :: Sf⟩) (fun i => i ≤ ss.length) (fun i => ss.length - i) 0 (Nat.zero_le _) ?_
  rintro i hi
  (repeat (first | refine WK ?_ | refine All.i fun X => ?_ | refine AllY.i fun Y => ?_))
  refine AWP.cond rfl (fun hc => ?_) (fun hc => ?_)
  · have h : i < ss.length := by rw [decide_eq_true_eq] at hc; omega
    (repeat (first | refine WK ?_ | refine All.i fun X => ?_ | refine AllY.i fun Y => ?_))
    refine AWP.lp (fun j : Nat => ⟨[(5, .sl Y 0 (ss.map (sysA false)).length), (6, iA i), (18, iA (ss.map (sysA false)).length), (19, iA i), (23, iA (ss.map (sysA false)).length), (24, iA j)], (Y, .row 72 7 (ss.map (sysA false))) :: Sf⟩) (fun j => j ≤ ss.length) (fun j => ss.length - j) 0 (Nat.zero_le _) ?_
    rintro j hj
    (repeat (first | refine WK ?_ | refine All.i fun X => ?_ | refine AllY.i fun Y => ?_))
    refine AWP.cond rfl (fun hd => ?_) (fun hd => ?_)
    · have h' : j < ss.length := by rw [decide_eq_true_eq] at hd; omega
      have c1 := conflict_ps ss[i] ss[j] (hsm _ (List.getElem_mem h)) (hsm _ (List.getElem_mem h'))
      have c2 := conflict_ps ss[j] ss[i] (hsm _ (List.getElem_mem h')) (hsm _ (List.getElem_mem h))
      rw [confl_comm] at c1
      obtain ⟨b, hb⟩ : ∃ b, confl ss[j] ss[i] = b := ⟨_, rfl⟩
      rw [hb] at c1 c2
      have hbb : (b != b) = false := by cases b <;> rfl
      (repeat (first | refine WK ?_ | refine All.i fun X => ?_ | refine AllY.i fun Y => ?_))
      (repeat refine WF ?_); refine AWP.region_run (by kernel_rfl) (by kernel_rfl) ?_; (repeat (first | (refine RGo.gN ?_; first | (refine RGo.g_callf ?_; first | refine RGo.c2 (h := (c1 ..)) (k := ?_) | refine RGo.c2 (h := (c2 ..)) (k := ?_)) | refine RGo.p (W.neB (by kernel_rfl) rfl rfl) rfl ?_) | (refine RGo.gQ ?_; first | (refine RGo.g_callf ?_; first | refine RGo.c2 (h := (c1 ..)) (k := ?_) | refine RGo.c2 (h := (c2 ..)) (k := ?_)) | refine RGo.p (W.neB (by kernel_rfl) rfl rfl) rfl ?_) | refine RK ?_ | refine RGo.nil (by kernel_rfl) ?_))
      refine AWP.cond_f rfl hbb ?_
      (repeat (first | refine WK ?_ | refine All.i fun X => ?_ | refine AllY.i fun Y => ?_))
      exact lp_next (j + 1) h'
    · (repeat (first | refine WK ?_ | refine All.i fun X => ?_ | refine AllY.i fun Y => ?_))
      exact lp_next (i + 1) h
  · (repeat (first | refine WK ?_ | refine All.i fun X => ?_ | refine AllY.i fun Y => ?_))
    refine AWP.lp2 (fun (i : Nat) (M : List AV) => ⟨[(5, .sl Y 0 (ss.map (sysA false)).length), (49, iA (ss.map (sysA false)).length), (50, iA i)], (Y, .row 72 7 M) :: Sf⟩) (fun i M => i ≤ ss.length ∧ ∃ tt : List Sys, M = tt.map (sysA false) ∧ tt.length = ss.length ∧ (∀ s ∈ tt, SysSm s) ∧ ∀ j (h : j < tt.length), j < i → tt[j].writes = []) (fun i _ => ss.length - i) 0 _ ⟨Nat.zero_le _, ss, rfl, rfl, hsm, fun j h h0 => absurd h0 (by omega)⟩ ?_
    rintro i M ⟨hi, tt, rfl, htl, hts, htw⟩
    (repeat (first | refine WK ?_ | refine All.i fun X => ?_ | refine AllY.i fun Y => ?_))
    refine AWP.cond rfl (fun hd => ?_) (fun hd => ?_)
    · have h : i < ss.length := by rw [decide_eq_true_eq] at hd; omega
      have ht : i < tt.length := by omega
      (repeat refine WF ?_); refine AWP.region ?_; (repeat (first | refine WO ?_ | refine All.i fun X => ?_ | refine AllY.i fun Y => ?_)); refine AOps.nil ?_; (repeat refine WN ?_)
      (repeat refine WF ?_); refine AWP.region ?_; (repeat (first | refine WO ?_ | refine All.i fun X => ?_ | refine AllY.i fun Y => ?_))
      obtain ⟨s, hs⟩ : ∃ s, tt[i] = s := ⟨_, rfl⟩
      rw [hs]
      have hx : ((tt.map (sysA false)).set i (.agg [sA s.name, intsA false s.wth, intsA false s.wout, intsA false s.reads, .prim (.slice none 0 0), opsA false s.ops, compsA false false s.spawn]))[i]? = some (.agg [sA s.name, intsA false s.wth, intsA false s.wout, intsA false s.reads, .prim (.slice none 0 0), opsA false s.ops, compsA false false s.spawn]) := by
        rw [List.getElem?_set_self (by rw [List.length_map]; exact ht)]
      refine AOps.nilIn (Y := Y) 3 1 (Ics.at hx (.agg (.cons .same (.cons .same (.cons .same (.cons .same (.cons (.base .nil) (.cons .same (.cons .same .nil))))))))) ?_
      (repeat (first | refine WK ?_ | refine All.i fun X => ?_ | refine AllY.i fun Y => ?_))
      refine lp_next2 (i + 1) _ ⟨h, tt.set i { s with writes := [] }, ?_, by rw [List.length_set, htl], ?_, ?_⟩
      · rw [List.set_set, List.map_set]; rfl
      · intro s' hs'
        rcases List.mem_or_eq_of_mem_set hs' with h1 | h1
        · exact hts s' h1
        · rw [h1]; exact ⟨by rw [← hs]; exact (hts _ (List.getElem_mem ht)).1, by simp⟩
      · intro j hj hji
        rw [List.getElem_set]
        split
        · rfl
        · rw [List.length_set] at hj
          exact htw j hj (by omega)
    · have h : i = ss.length := by rw [decide_eq_false_iff_not] at hd; omega
      subst h
      have hnw : ∀ s ∈ tt, s.writes = [] := fun s hs => by
        obtain ⟨j, hj, rfl⟩ := List.getElem_of_mem hs
        exact htw j hj (by omega)
      have hly := layers_ps tt (by omega) hts
      rw [depL_none hnw] at hly
      have hll := layTo_ones tt.length tt.length (Nat.le_refl _)
      obtain ⟨LL, hLL⟩ : ∃ LL, layTo (List.replicate tt.length 1) tt.length = LL := ⟨_, rfl⟩
      rw [hLL] at hly hll
      (repeat first | refine AOps.nil ?_ | refine WF ?_)
      refine AWP.iceL 5 (tt.map (sysA false)) ?_ ?_
      · exact Frzs.h
      (repeat (first | (refine AOps.gN ?_; first | (refine AOps.g_callf ?_; first | refine AOps.c1 (h := (hly ..)) (k := ?_))) | refine WK ?_ | refine All.i fun X => ?_ | refine AllY.i fun Y => ?_))
      (refine AWP.ret ?_; (repeat (first | refine inB_r ?_ | refine andThen_r ?_)); refine retQ_r ?_); refine Ends.ps ?_
      have hmin : ((LL.map fun a => AV.lst false 3 1 (a.map fun a => AV.prim (.int .i64 a))).length : Int) = if (1 : Int) < (tt.map (sysA false)).length then 1 else ((tt.map (sysA false)).length : Int) := by
        rw [List.length_map, List.length_map, hll]
        split <;> omega
      rw [decide_eq_true hmin]
theorem planReads_calls (l : List Int) (A0 : Option Addr) (n0 cap0 : Nat) (m : List Int) (A1 : Option Addr) (n1 cap1 : Nat) (w : World) (hl : Ints w (Lt w) (.slice A0 n0 cap0) l) (hlen : l.length * 8 ≤ 140737488351232) (h1 : Ints w (Lt w) (.slice A1 n1 cap1) m) (hlen1 : m.length * 8 ≤ 140737488351232) :
    Calls Try.prog 7 #[.slice A0 n0 cap0, .slice A1 n1 cap1] w fun e w' => e = .returned (.bool true) ∧ Below w.heap.size w w' :=
  (planReads_ps l m).calls_bool (vts_ints hl (vts_ints h1 vts_nil))
end Go.Proofs.Ytcfleoaldoebhaa
