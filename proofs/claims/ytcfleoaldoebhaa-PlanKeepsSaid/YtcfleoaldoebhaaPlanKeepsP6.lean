/-
  Part 6 of the texts under the law PlanKeeps: the layer of abstract values, walks and plain laws. Conditions: those that each theorem names.
-/
import Derived.Test.YtcfleoaldoebhaaPlanKeepsP5
namespace Go.Proofs.Ytcfleoaldoebhaa
set_option linter.unusedVariables false
open Go.RowKit
theorem hits_comm (x y : List Int) : hits x y = hits y x := by
  have : ∀ x y : List Int, hits x y = true → hits y x = true := fun x y h => by
    unfold hits at h ⊢
    obtain ⟨k, hk, h⟩ := List.any_eq_true.1 h
    exact List.any_eq_true.2 ⟨k, by simpa using h, by simpa using hk⟩
  cases h : hits x y
  · cases h2 : hits y x
    · rfl
    · rw [this _ _ h2] at h; cases h
  · exact (this _ _ h).symm
theorem confl_comm (a b : Sys) : confl a b = confl b a := by
  unfold confl
  rw [hits_comm a.writes b.writes, hits_comm a.writes b.reads, hits_comm a.reads b.writes, Bool.or_assoc, Bool.or_assoc, Bool.or_comm (hits b.reads a.writes)]
theorem confl_none {a b : Sys} (ha : a.writes = []) (hb : b.writes = []) : confl a b = false := by
  have h : ∀ x : List Int, hits x [] = false := fun x => by simp [hits]
  unfold confl
  rw [ha, hb, h, h]
  rfl
theorem confAt_none {ls : List Sys} (h : ∀ s ∈ ls, s.writes = []) (j i : Nat) : confAt ls j i = false := by
  unfold confAt
  split
  · rename_i a b ha hb
    exact confl_none (h _ (List.mem_of_getElem? ha)) (h _ (List.mem_of_getElem? hb))
  · rfl
theorem depL_none {ls : List Sys} (h : ∀ s ∈ ls, s.writes = []) (i : Nat) : depL ls i = List.replicate i 1 := by
  have ha : ∀ pre i j, accTo ls pre i j = 1 := by
    intro pre i j
    induction j with
    | zero => rfl
    | succ j ih => rw [accTo, confAt_none h]; exact ih
  induction i with
  | zero => rfl
  | succ i ih => rw [depL, ih, ha, List.replicate_succ']
theorem layTo_ones (n : Nat) : ∀ i, i ≤ n → (layTo (List.replicate n 1) i).length = min i 1 := by
  intro i
  induction i with
  | zero => intro _; rfl
  | succ i ih =>
    intro hi
    have := ih (by omega)
    rw [layTo, List.getElem?_replicate, if_pos (by omega)]
    simp only [List.length_modify, List.length_append, List.length_replicate]
    omega
theorem SysOK.sm {ks : List Kind} {n : Nat} {s : Sys} (h : SysOK ks n s) (hk : KindsOK ks) : SysSm s := by
  have := hk.1
  have h3 := pw_len h.lists.o3 (fun x hx => h.lists.r1 x (h.lists.s3 x hx)) (by omega)
  have h4 := pw_len h.lists.o4 (fun x hx => h.lists.r1 x (h.lists.s4 x hx)) (by omega)
  exact ⟨by omega, by omega⟩
theorem genKinds_ne (l : List Int) : (genKinds l).1 ≠ [] ∧ ∀ k ∈ (genKinds l).1, k.fields ≠ [] := by
  have h := nextV_range l (n := 4) (by decide)
  refine ⟨fun e => ?_, ?_⟩
  · have := genKinds_cnt l
    rw [e] at this
    simp at this
    omega
  · rw [genKinds_at]
    intro k hk
    have : ∀ i q, ∀ k ∈ (kAt i q).1, k.fields ≠ [] := by
      intro i q
      induction i with
      | zero => intro k hk; cases hk
      | succ i ih =>
        intro k hk
        rcases List.mem_append.1 hk with hk | hk
        · exact ih k hk
        · rw [List.mem_singleton.1 hk]
          show (genFields 0 (1 + nextV (kAt i q).2 3).toNat (nextL (kAt i q).2 3)).1 ≠ []
          have h3 := nextV_range (kAt i q).2 (n := 3) (by decide)
          rw [genFields_at]
          intro e
          have := congrArg List.length e
          rw [fAt_len] at this
          simp at this
          omega
    exact this _ _ k hk
theorem planReads_ps (l m : List Int) : PS Try.prog 7 [intsA false l, intsA false m] (bA true) := by
  refine Spec.of (nt := 73) (res := [.tmp 4]) Try.func7 rfl (by kernel_rfl) rfl rfl rfl fun Sf => ?_
  have hko := genKinds_rng l
  obtain ⟨hk0, hkf⟩ := genKinds_ne l
  have hkE := kindsE_ps l
  obtain ⟨ks, hks⟩ : ∃ ks, (genKinds l).1 = ks := ⟨_, rfl⟩
  rw [hks] at hko hk0 hkf hkE
  have hsp := systems_sp ks m hko hkf hk0
  (repeat (first | (refine AOps.gN ?_; first | (refine AOps.g_callf ?_; first | refine AOps.c0 (h := (layered_ps ..)) (k := ?_))) | refine WK ?_ | refine All.i fun X => ?_ | refine AllY.i fun Y => ?_))
  refine AWP.cond_f rfl rfl ?_
  (repeat refine WF ?_); refine AWP.region ?_; (repeat (first | (refine AOps.gN ?_; first | (refine AOps.g_callf ?_; first | refine AOps.c1 (h := (hkE ..)) (k := ?_))) | refine WO ?_ | refine All.i fun X => ?_ | refine AllY.i fun Y => ?_))
  refine AOps.et2 (h := hsp) fun ss hss Y => ?_
  have hsm : ∀ s ∈ ss, SysSm s := fun s hs => by
    obtain ⟨i, hi, rfl⟩ := List.getElem_of_mem hs
    exact (hss.2 i hi).sm hko
  have hn5 := hss.1
  have hlm : (ss.map (sysA false)).length = ss.length := List.length_map _
  (repeat (first | refine WK ?_ | refine All.i fun X => ?_ | refine AllY.i fun Y => ?_))
  refine AWP.lp (fun i : Nat => ⟨[(5, .sl Y 0 (ss.map (sysA false)).length), (18, iA (ss.map (sysA false)).length), (19, iA i)], (Y, .row 72 7 (ss.map (sysA false))) :: Sf⟩) (fun i => i ≤ ss.length) (fun i => ss.length - i) 0 (Nat.zero_le _) ?_
  rintro i hi
  (repeat (first | refine WK ?_ | refine All.i fun X => ?_ | refine AllY.i fun Y => ?_))
  refine AWP.cond rfl (fun hc => ?_) (fun hc => ?_)
  · have h : i < ss.length := by rw [decide_eq_true_eq] at hc; omega
    (repeat (first | refine WK ?_ | refine All.i fun X => ?_ | refine AllY.i fun Y => ?_))
    refine AWP.lp (fun j : Nat => ⟨[(5, .sl Y 0 (ss.map (sysA false)).length), (6, iA i), (18, iA (ss.map (sysA false)).length), (19, iA i), (23, iA (ss.map (sysA false)).length), (24, iA j)], (Y, .row 72 7 (ss.map (sysA false))) :: Sf⟩) (fun j => j ≤ ss.length) (fun j => ss.length - j) 0 (Nat.zero_le _) ?_
    rintro j hj
    (repeat (first | refine WK ?_ | refine All.i fun X => ?_ | refine AllY.i fun Y => ?_))
    refine AWP.cond rfl (fun hd => ?_) (fun hd => ?_)
    · have h' : j < ss.length := by rw [decide_eq_true_eq] at hd; omega
      have c1 := conflict_ps ss[i] ss[j] (hsm _ (List.getElem_mem h)) (hsm _ (List.getElem_mem h'))
      have c2 := conflict_ps ss[j] ss[i] (hsm _ (List.getElem_mem h')) (hsm _ (List.getElem_mem h))
      rw [confl_comm] at c1
      obtain ⟨b, hb⟩ : ∃ b, confl ss[j] ss[i] = b := ⟨_, rfl⟩
      rw [hb] at c1 c2
      have hbb : (b != b) = false := by cases b <;> rfl
      (repeat (first | refine WK ?_ | refine All.i fun X => ?_ | refine AllY.i fun Y => ?_))
      (repeat refine WF ?_); refine AWP.region_run (by kernel_rfl) (by kernel_rfl) ?_; (repeat (first | (refine RGo.gN ?_; first | (refine RGo.g_callf ?_; first | refine RGo.c2 (h := (c1 ..)) (k := ?_) | refine RGo.c2 (h := (c2 ..)) (k := ?_)) | refine RGo.p (W.neB (by kernel_rfl) rfl rfl) rfl ?_) | (refine RGo.gQ ?_; first | (refine RGo.g_callf ?_; first | refine RGo.c2 (h := (c1 ..)) (k := ?_) | refine RGo.c2 (h := (c2 ..)) (k := ?_)) | refine RGo.p (W.neB (by kernel_rfl) rfl rfl) rfl ?_) | refine RK ?_ | refine RGo.nil (by kernel_rfl) ?_))
      refine AWP.cond_f rfl hbb ?_
      (repeat (first | refine WK ?_ | refine All.i fun X => ?_ | refine AllY.i fun Y => ?_))
      exact lp_next (j + 1) h'
    · (repeat (first | refine WK ?_ | refine All.i fun X => ?_ | refine AllY.i fun Y => ?_))
      exact lp_next (i + 1) h
  · (repeat (first | refine WK ?_ | refine All.i fun X => ?_ | refine AllY.i fun Y => ?_))
    refine AWP.lp2 (fun (i : Nat) (M : List AV) => ⟨[(5, .sl Y 0 (ss.map (sysA false)).length), (49, iA (ss.map (sysA false)).length), (50, iA i)], (Y, .row 72 7 M) :: Sf⟩) (fun i M => i ≤ ss.length ∧ ∃ tt : List Sys, M = tt.map (sysA false) ∧ tt.length = ss.length ∧ (∀ s ∈ tt, SysSm s) ∧ ∀ j (h : j < tt.length), j < i → tt[j].writes = []) (fun i _ => ss.length - i) 0 _ ⟨Nat.zero_le _, ss, rfl, rfl, hsm, fun j h h0 => absurd h0 (by omega)⟩ ?_
    rintro i M ⟨hi, tt, rfl, htl, hts, htw⟩
    (repeat (first | refine WK ?_ | refine All.i fun X => ?_ | refine AllY.i fun Y => ?_))
    refine AWP.cond rfl (fun hd => ?_) (fun hd => ?_)
    · have h : i < ss.length := by rw [decide_eq_true_eq] at hd; omega
      have ht : i < tt.length := by omega
      (repeat refine WF ?_); refine AWP.region ?_; (repeat (first | refine WO ?_ | refine All.i fun X => ?_ | refine AllY.i fun Y => ?_)); refine AOps.nil ?_; (repeat refine WN ?_)
      (repeat refine WF ?_); refine AWP.region ?_; (repeat (first | refine WO ?_ | refine All.i fun X => ?_ | refine AllY.i fun Y => ?_))
      obtain ⟨s, hs⟩ : ∃ s, tt[i] = s := ⟨_, rfl⟩
      rw [hs]
      have hx : ((tt.map (sysA false)).set i (.agg [sA s.name, intsA false s.wth, intsA false s.wout, intsA false s.reads, .prim (.slice none 0 0), opsA false s.ops, compsA false false s.spawn]))[i]? = some (.agg [sA s.name, intsA false s.wth, intsA false s.wout, intsA false s.reads, .prim (.slice none 0 0), opsA false s.ops, compsA false false s.spawn]) := by
        rw [List.getElem?_set_self (by rw [List.length_map]; exact ht)]
      refine AOps.nilIn (Y := Y) 3 1 (Ics.at hx (.agg (.cons .same (.cons .same (.cons .same (.cons .same (.cons (.base .nil) (.cons .same (.cons .same .nil))))))))) ?_
      (repeat (first | refine WK ?_ | refine All.i fun X => ?_ | refine AllY.i fun Y => ?_))
      refine lp_next2 (i + 1) _ ⟨h, tt.set i { s with writes := [] }, ?_, by rw [List.length_set, htl], ?_, ?_⟩
      · rw [List.set_set, List.map_set]; rfl
      · intro s' hs'
        rcases List.mem_or_eq_of_mem_set hs' with h1 | h1
        · exact hts s' h1
        · rw [h1]; exact ⟨by rw [← hs]; exact (hts _ (List.getElem_mem ht)).1, by simp⟩
      · intro j hj hji
        rw [List.getElem_set]
        split
        · rfl
        · rw [List.length_set] at hj
          exact htw j hj (by omega)
    · have h : i = ss.length := by rw [decide_eq_false_iff_not] at hd; omega
      subst h
      have hnw : ∀ s ∈ tt, s.writes = [] := fun s hs => by
        obtain ⟨j, hj, rfl⟩ := List.getElem_of_mem hs
        exact htw j hj (by omega)
      have hly := layers_ps tt (by omega) hts
      rw [depL_none hnw] at hly
      have hll := layTo_ones tt.length tt.length (Nat.le_refl _)
      obtain ⟨LL, hLL⟩ : ∃ LL, layTo (List.replicate tt.length 1) tt.length = LL := ⟨_, rfl⟩
      rw [hLL] at hly hll
      (repeat first | refine AOps.nil ?_ | refine WF ?_)
      refine AWP.iceL 5 (tt.map (sysA false)) ?_ ?_
      · exact Frzs.h
      (repeat (first | (refine AOps.gN ?_; first | (refine AOps.g_callf ?_; first | refine AOps.c1 (h := (hly ..)) (k := ?_))) | refine WK ?_ | refine All.i fun X => ?_ | refine AllY.i fun Y => ?_))
      (refine AWP.ret ?_; (repeat (first | refine inB_r ?_ | refine andThen_r ?_)); refine retQ_r ?_); refine Ends.ps ?_
      have hmin : ((LL.map fun a => AV.lst false 3 1 (a.map fun a => AV.prim (.int .i64 a))).length : Int) = if (1 : Int) < (tt.map (sysA false)).length then 1 else ((tt.map (sysA false)).length : Int) := by
        rw [List.length_map, List.length_map, hll]
        split <;> omega
      rw [decide_eq_true hmin]
theorem planReads_calls (l : List Int) (A0 : Option Addr) (n0 cap0 : Nat) (m : List Int) (A1 : Option Addr) (n1 cap1 : Nat) (w : World) (hl : Ints w (Lt w) (.slice A0 n0 cap0) l) (hlen : l.length * 8 ≤ 140737488351232) (h1 : Ints w (Lt w) (.slice A1 n1 cap1) m) (hlen1 : m.length * 8 ≤ 140737488351232) :
    Calls Try.prog 7 #[.slice A0 n0 cap0, .slice A1 n1 cap1] w fun e w' => e = .returned (.bool true) ∧ Below w.heap.size w w' :=
  (planReads_ps l m).calls_bool (vts_ints hl (vts_ints h1 vts_nil))
end Go.Proofs.Ytcfleoaldoebhaa

namespace Go.Proofs.Ytcfleoaldoebhaa
set_option linter.unusedVariables false
/-! ### the depths -/
theorem depL_get (ls : List Sys) {i n : Nat} (h : i < n) : (depL ls n)[i]? = some (accTo ls (depL ls i) i i) := by
  induction n with
  | zero => omega
  | succ n ih =>
    rw [depL]
    by_cases e : i = n
    · subst e
      rw [List.getElem?_append_right (by rw [depL_len]; exact Nat.le_refl _), depL_len, Nat.sub_self]; rfl
    · rw [List.getElem?_append_left (by rw [depL_len]; omega)]
      exact ih (by omega)
theorem depL_pre (ls : List Sys) {i j n : Nat} (h : j < i) (hn : i ≤ n) : (depL ls i)[j]? = (depL ls n)[j]? := by
  rw [depL_get ls h, depL_get ls (by omega)]
/-- What the numbers of depth, or of rest, are: dir tells who comes first. -/
structure DepOK (n : Nat) (cf : Nat → Nat → Bool) (d : Nat → Int) : Prop where
  pos : ∀ i, i < n → 1 ≤ d i
  up : ∀ j i, j < i → i < n → cf j i = true → d j + 1 ≤ d i
  by_ : ∀ i, i < n → d i = 1 ∨ ∃ j, j < i ∧ cf j i = true ∧ d i = d j + 1
structure RstOK (n : Nat) (cf : Nat → Nat → Bool) (d : Nat → Int) : Prop where
  pos : ∀ i, i < n → 1 ≤ d i
  up : ∀ i j, i < j → j < n → cf i j = true → d j + 1 ≤ d i
  by_ : ∀ i, i < n → d i = 1 ∨ ∃ j, i < j ∧ j < n ∧ cf i j = true ∧ d i = d j + 1
theorem DepOK.rst {n : Nat} {cf : Nat → Nat → Bool} {d r : Nat → Int} (hd : DepOK n cf d) (hr : RstOK n cf r) : ∀ i, i < n → ∀ q, q ≤ r i → ∃ i0, i0 < n ∧ d i + q - 1 ≤ r i0 := by
  intro i
  induction i using Nat.strongRecOn with
  | _ i ih =>
    intro hi q hq
    rcases hd.by_ i hi with h | ⟨j, hj, hc, h⟩
    · exact ⟨i, hi, by omega⟩
    · have := hr.up j i hj hi hc
      obtain ⟨i0, h1, h2⟩ := ih j hj (by omega) (q + 1) (by omega)
      exact ⟨i0, h1, by omega⟩
theorem RstOK.dep {n : Nat} {cf : Nat → Nat → Bool} {d r : Nat → Int} (hr : RstOK n cf r) (hd : DepOK n cf d) : ∀ k i, n - i = k → i < n → ∀ q, q ≤ d i → ∃ i0, i0 < n ∧ r i + q - 1 ≤ d i0 := by
  intro k
  induction k using Nat.strongRecOn with
  | _ k ih =>
    intro i hk hi q hq
    rcases hr.by_ i hi with h | ⟨j, hj, hjn, hc, h⟩
    · exact ⟨i, hi, by omega⟩
    · have := hd.up i j hj hjn hc
      obtain ⟨i0, h1, h2⟩ := ih (n - j) (by omega) j rfl hjn (q + 1) (by omega)
      exact ⟨i0, h1, by omega⟩
theorem accTo_up (ls : List Sys) (pre : List Int) (i : Nat) : ∀ t j, j < t → confAt ls j i = true → pre.getD j 0 + 1 ≤ accTo ls pre i t := by
  intro t
  induction t with
  | zero => intro j hj; omega
  | succ t ih =>
    intro j hj hc
    rw [accTo]
    by_cases e : j = t
    · subst e; rw [if_pos hc]; omega
    · have := ih j (by omega) hc
      split <;> omega
theorem accTo_by (ls : List Sys) (pre : List Int) (i : Nat) : ∀ t, accTo ls pre i t = 1 ∨ ∃ j, j < t ∧ confAt ls j i = true ∧ accTo ls pre i t = pre.getD j 0 + 1 := by
  intro t
  induction t with
  | zero => exact .inl rfl
  | succ t ih =>
    rw [accTo]
    split
    · rename_i hc
      by_cases h : accTo ls pre i t ≤ pre.getD t 0 + 1
      · exact .inr ⟨t, by omega, hc, by omega⟩
      · rcases ih with h1 | ⟨j, h1, h2, h3⟩
        · exact .inl (by omega)
        · exact .inr ⟨j, by omega, h2, by omega⟩
    · rcases ih with h1 | ⟨j, h1, h2, h3⟩
      · exact .inl h1
      · exact .inr ⟨j, by omega, h2, h3⟩
theorem dep_ok (ls : List Sys) : DepOK ls.length (confAt ls) fun i => (depL ls ls.length).getD i 0 := by
  obtain ⟨n, hn⟩ : ∃ n, ls.length = n := ⟨_, rfl⟩
  rw [hn]
  have hg : ∀ i, i < n → (depL ls n).getD i 0 = accTo ls (depL ls i) i i := fun i hi => by
    rw [List.getD_eq_getElem?_getD, depL_get ls hi]; rfl
  have hp : ∀ i j, j < i → i < n → (depL ls i).getD j 0 = (depL ls n).getD j 0 := fun i j hj hi => by
    rw [List.getD_eq_getElem?_getD, List.getD_eq_getElem?_getD, depL_pre ls (n := n) hj (by omega)]
  refine ⟨fun i hi => ?_, fun j i hj hi hc => ?_, fun i hi => ?_⟩
  · rw [hg i hi]
    exact (accTo_le (ls := ls) (n := i) (by omega) (depL_le ls i) i i (by rw [depL_len]; omega)).1
  · rw [hg i hi, ← hp i j hj hi]
    exact accTo_up ls _ i i j hj hc
  · rw [hg i hi]
    rcases accTo_by ls (depL ls i) i i with h | ⟨j, h1, h2, h3⟩
    · exact .inl h
    · exact .inr ⟨j, h1, h2, by rw [h3, hp i j h1 hi]⟩
/-! ### the rests -/
/-- The longest chain that begins with the i-th system, looking at t systems behind it. -/
def accR (ls : List Sys) (suf : List Int) (i : Nat) : Nat → Int
  | 0 => 1
  | t + 1 => if confAt ls i (i + 1 + t) then max (accR ls suf i t) (suf.getD t 0 + 1) else accR ls suf i t
/-- The rests of the last c systems. -/
def restF (ls : List Sys) : Nat → List Int
  | 0 => []
  | c + 1 => accR ls (restF ls c) (ls.length - 1 - c) c :: restF ls c
theorem restF_len (ls : List Sys) (c : Nat) : (restF ls c).length = c := by
  induction c with
  | zero => rfl
  | succ c ih => simp [restF, ih]
theorem accR_le {ls : List Sys} {suf : List Int} {n : Int} (hn : 0 ≤ n) (h : ∀ x ∈ suf, 1 ≤ x ∧ x ≤ n) (i : Nat) : ∀ t, t ≤ suf.length → 1 ≤ accR ls suf i t ∧ accR ls suf i t ≤ n + 1 := by
  intro t
  induction t with
  | zero => intro _; simp [accR]; omega
  | succ t ih =>
    intro ht
    have := ih (by omega)
    rw [accR]
    split
    · have hx := h (suf.getD t 0) (by simp [show t < suf.length by omega])
      omega
    · exact this
theorem restF_le (ls : List Sys) (c : Nat) : ∀ x ∈ restF ls c, 1 ≤ x ∧ x ≤ c := by
  induction c with
  | zero => intro x hx; cases hx
  | succ c ih =>
    intro x hx
    rw [restF] at hx
    rcases List.mem_cons.1 hx with hx | hx
    · rw [hx]
      have := accR_le (ls := ls) (n := c) (by omega) ih (ls.length - 1 - c) c (by rw [restF_len]; exact Nat.le_refl _)
      omega
    · have := ih x hx; omega
theorem accR_up (ls : List Sys) (suf : List Int) (i : Nat) : ∀ t j, j < t → confAt ls i (i + 1 + j) = true → suf.getD j 0 + 1 ≤ accR ls suf i t := by
  intro t
  induction t with
  | zero => intro j hj; omega
  | succ t ih =>
    intro j hj hc
    rw [accR]
    by_cases e : j = t
    · subst e; rw [if_pos hc]; omega
    · have := ih j (by omega) hc
      split <;> omega
theorem accR_by (ls : List Sys) (suf : List Int) (i : Nat) : ∀ t, accR ls suf i t = 1 ∨ ∃ j, j < t ∧ confAt ls i (i + 1 + j) = true ∧ accR ls suf i t = suf.getD j 0 + 1 := by
  intro t
  induction t with
  | zero => exact .inl rfl
  | succ t ih =>
    rw [accR]
    split
    · rename_i hc
      by_cases h : accR ls suf i t ≤ suf.getD t 0 + 1
      · exact .inr ⟨t, by omega, hc, by omega⟩
      · rcases ih with h1 | ⟨j, h1, h2, h3⟩
        · exact .inl (by omega)
        · exact .inr ⟨j, by omega, h2, by omega⟩
    · rcases ih with h1 | ⟨j, h1, h2, h3⟩
      · exact .inl h1
      · exact .inr ⟨j, by omega, h2, h3⟩
theorem restF_suf (ls : List Sys) : ∀ c e, c ≤ e → ∀ t, (restF ls e)[e - c + t]? = (restF ls c)[t]? := by
  intro c e h
  induction e with
  | zero => intro t; obtain rfl : c = 0 := (by omega); simp
  | succ e ih =>
    intro t
    by_cases he : c = e + 1
    · subst he; simp
    · rw [restF, show e + 1 - c + t = (e - c + t) + 1 by omega, List.getElem?_cons_succ]
      exact ih (by omega) t
theorem restF_get (ls : List Sys) {i : Nat} (h : i < ls.length) : (restF ls ls.length)[i]? = some (accR ls (restF ls (ls.length - 1 - i)) i (ls.length - 1 - i)) := by
  have := restF_suf ls (ls.length - 1 - i + 1) ls.length (by omega) 0
  rw [show ls.length - (ls.length - 1 - i + 1) + 0 = i by omega] at this
  rw [this, restF, List.getElem?_cons_zero, show ls.length - 1 - (ls.length - 1 - i) = i by omega]
theorem rst_ok (ls : List Sys) : RstOK ls.length (confAt ls) fun i => (restF ls ls.length).getD i 0 := by
  have hg : ∀ i, i < ls.length → (restF ls ls.length).getD i 0 = accR ls (restF ls (ls.length - 1 - i)) i (ls.length - 1 - i) := fun i hi => by
    rw [List.getD_eq_getElem?_getD, restF_get ls hi]; rfl
  have hp : ∀ i t, i + 1 + t < ls.length → (restF ls (ls.length - 1 - i)).getD t 0 = (restF ls ls.length).getD (i + 1 + t) 0 := fun i t h => by
    rw [List.getD_eq_getElem?_getD, List.getD_eq_getElem?_getD, ← restF_suf ls (ls.length - 1 - i) ls.length (by omega) t]
    congr 2
    omega
  refine ⟨fun i hi => ?_, fun i j hj hi hc => ?_, fun i hi => ?_⟩
  · rw [hg i hi]
    exact (accR_le (ls := ls) (n := (ls.length - 1 - i : Nat)) (by omega) (restF_le ls _) i _ (by rw [restF_len]; exact Nat.le_refl _)).1
  · obtain ⟨t, rfl⟩ : ∃ t, j = i + 1 + t := ⟨j - i - 1, by omega⟩
    rw [hg i (by omega), ← hp i t hi]
    exact accR_up ls _ i _ t (by omega) hc
  · rw [hg i hi]
    rcases accR_by ls (restF ls (ls.length - 1 - i)) i (ls.length - 1 - i) with h | ⟨t, h1, h2, h3⟩
    · exact .inl h
    · exact .inr ⟨i + 1 + t, by omega, by omega, h2, by rw [h3, hp i t (by omega)]⟩
/-! ### a chain by taking the first that fits -/
def maxL (l : List Int) : Int := l.foldr max 0
theorem maxL_le {l : List Int} {x : Int} (h : x ∈ l) : x ≤ maxL l := by
  induction l with
  | nil => cases h
  | cons y l ih =>
    rcases List.mem_cons.1 h with rfl | h
    · show x ≤ max x (maxL l); omega
    · have := ih h; show x ≤ max y (maxL l); omega
theorem maxL_mem {l : List Int} (h0 : ∀ x ∈ l, 1 ≤ x) (h : l ≠ []) : maxL l ∈ l := by
  induction l with
  | nil => exact absurd rfl h
  | cons y l ih =>
    show max y (maxL l) ∈ _
    by_cases hl : l = []
    · subst hl
      have := h0 y (by simp)
      rw [show max y (maxL []) = y by show max y 0 = y; omega]
      simp
    · have := ih (fun x hx => h0 x (by simp [hx])) hl
      by_cases hy : y ≤ maxL l
      · rw [show max y (maxL l) = maxL l by omega]; simp [this]
      · rw [show max y (maxL l) = y by omega]; simp
theorem maxL_nonneg (l : List Int) : 0 ≤ maxL l := by
  induction l with
  | nil => exact Int.le_refl _
  | cons y l ih => show 0 ≤ max y (maxL l); omega
/-- Is the i-th system taken behind o? -/
def takes (ls : List Sys) (rs : List Int) (best : Int) (o : List Nat) (i : Nat) : Bool :=
  (decide ((o.length : Int) < best) && decide (rs.getD i 0 = best - o.length)) && (match o.getLast? with | none => true | some k => confAt ls k i)
def outTo (ls : List Sys) (rs : List Int) (best : Int) : Nat → List Nat
  | 0 => []
  | i + 1 => if takes ls rs best (outTo ls rs best i) i then outTo ls rs best i ++ [i] else outTo ls rs best i
theorem outTo_lt (ls : List Sys) (rs : List Int) (best : Int) (i : Nat) : ∀ k ∈ outTo ls rs best i, k < i := by
  induction i with
  | zero => intro k hk; cases hk
  | succ i ih =>
    intro k hk
    rw [outTo] at hk
    split at hk
    · rcases List.mem_append.1 hk with hk | hk
      · have := ih k hk; omega
      · rw [List.mem_singleton.1 hk]; omega
    · have := ih k hk; omega
theorem outTo_len (ls : List Sys) (rs : List Int) (best : Int) (h : 0 ≤ best) (i : Nat) : ((outTo ls rs best i).length : Int) ≤ best ∧ (outTo ls rs best i).length ≤ i := by
  induction i with
  | zero => exact ⟨h, Nat.le_refl _⟩
  | succ i ih =>
    rw [outTo]
    split
    · rename_i ht
      unfold takes at ht
      simp only [Bool.and_eq_true, decide_eq_true_eq] at ht
      rw [List.length_append]
      simp only [List.length_singleton]
      omega
    · omega
/-- What is in a chain: each conflicts with the next one, and comes before it. -/
theorem outTo_chain (ls : List Sys) (rs : List Int) (best : Int) (i : Nat) : ∀ q, ∀ a b, (outTo ls rs best i)[q]? = some a → (outTo ls rs best i)[q + 1]? = some b → a < b ∧ confAt ls a b = true := by
  induction i with
  | zero => intro q a b h; simp [outTo] at h
  | succ i ih =>
    intro q a b ha hb
    rw [outTo] at ha hb
    split at ha
    · rename_i ht
      rw [if_pos ht] at hb
      by_cases hq : q + 1 < (outTo ls rs best i).length
      · rw [List.getElem?_append_left hq] at hb
        rw [List.getElem?_append_left (by omega)] at ha
        exact ih q a b ha hb
      · have hb2 := (List.getElem?_eq_some_iff.1 hb).1
        rw [List.length_append, List.length_singleton] at hb2
        have hq2 : q + 1 = (outTo ls rs best i).length := by omega
        rw [List.getElem?_append_right (by omega), hq2, Nat.sub_self] at hb
        obtain rfl : i = b := by simpa using hb
        rw [List.getElem?_append_left (by omega)] at ha
        unfold takes at ht
        have hl : (outTo ls rs best i).getLast? = some a := by
          rw [List.getLast?_eq_getElem?, ← hq2, Nat.add_sub_cancel, ha]
        rw [hl] at ht
        simp only [Bool.and_eq_true] at ht
        exact ⟨outTo_lt ls rs best i a (List.mem_of_getElem? ha), ht.2⟩
    · rename_i ht
      rw [if_neg ht] at hb
      exact ih q a b ha hb
/-- As long as the chain is too short, there is one to come that fits. -/
theorem outTo_full (ls : List Sys) (r : Nat → Int) (rs : List Int) (hrs : ∀ i, rs.getD i 0 = r i) (hr : RstOK ls.length (confAt ls) r) (best : Int) (hb : best = 0 ∨ ∃ i, i < ls.length ∧ r i = best) (hb0 : 0 ≤ best) : ∀ i, i ≤ ls.length →
    ((outTo ls rs best i).length : Int) = best ∨ ∃ j, i ≤ j ∧ j < ls.length ∧ takes ls rs best (outTo ls rs best i) j = true := by
  intro i
  induction i with
  | zero =>
    intro _
    rcases hb with h | ⟨j, hj, h⟩
    · exact .inl h.symm
    · by_cases h0 : best = 0
      · exact .inl h0.symm
      · refine .inr ⟨j, Nat.zero_le _, hj, ?_⟩
        unfold takes
        have : (0 : Int) < best := by omega
        rw [hrs, h]
        simp [outTo, this]
  | succ i ih =>
    intro hi
    have hlen := (outTo_len ls rs best hb0 (i + 1)).1
    by_cases hf : ((outTo ls rs best (i + 1)).length : Int) = best
    · exact .inl hf
    · refine .inr ?_
      rw [outTo] at hf hlen ⊢
      split
      · rename_i ht
        rw [if_pos ht] at hf hlen
        have ht' := ht
        unfold takes at ht'
        simp only [Bool.and_eq_true, decide_eq_true_eq, hrs] at ht'
        rw [List.length_append, List.length_singleton] at hf hlen
        rcases hr.by_ i (by omega) with h1 | ⟨j, h1, h2, h3, h4⟩
        · omega
        · refine ⟨j, by omega, h2, ?_⟩
          unfold takes
          rw [List.getLast?_concat]
          simp only [List.length_append, List.length_singleton, hrs, h3, Bool.and_true, Bool.and_eq_true, decide_eq_true_eq]
          omega
      · rename_i ht
        rw [if_neg ht] at hf hlen
        rcases ih (by omega) with h1 | ⟨j, h1, h2, h3⟩
        · exact absurd h1 hf
        · refine ⟨j, ?_, h2, h3⟩
          by_cases e : j = i
          · subst e; exact absurd h3 ht
          · omega
theorem out_len (ls : List Sys) : (outTo ls (restF ls ls.length) (maxL (restF ls ls.length)) ls.length).length = (maxL (restF ls ls.length)).toNat := by
  have hr := rst_ok ls
  have h0 := maxL_nonneg (restF ls ls.length)
  have hb : maxL (restF ls ls.length) = 0 ∨ ∃ i, i < ls.length ∧ (restF ls ls.length).getD i 0 = maxL (restF ls ls.length) := by
    by_cases he : restF ls ls.length = []
    · exact .inl (by rw [he]; rfl)
    · right
      have hm := maxL_mem (fun x hx => (restF_le ls _ x hx).1) he
      obtain ⟨i, hi, hx⟩ := List.getElem_of_mem hm
      refine ⟨i, by rwa [restF_len] at hi, ?_⟩
      rw [List.getD_eq_getElem?_getD, List.getElem?_eq_getElem hi, hx]; rfl
  rcases outTo_full ls _ (restF ls ls.length) (fun _ => rfl) hr _ hb h0 ls.length (Nat.le_refl _) with h | ⟨j, h1, h2, _⟩
  · omega
  · omega
/-- The greatest depth is the greatest rest. -/
theorem max_same (ls : List Sys) : maxL (depL ls ls.length) = maxL (restF ls ls.length) := by
  have hd := dep_ok ls
  have hr := rst_ok ls
  have get : ∀ (l : List Int) (i : Nat), i < l.length → l.getD i 0 ∈ l := fun l i h => by
    rw [List.getD_eq_getElem?_getD, List.getElem?_eq_getElem h]; exact List.getElem_mem h
  have idx : ∀ (l : List Int) x, x ∈ l → ∃ i, i < l.length ∧ l.getD i 0 = x := fun l x h => by
    obtain ⟨i, hi, rfl⟩ := List.getElem_of_mem h
    exact ⟨i, hi, by rw [List.getD_eq_getElem?_getD, List.getElem?_eq_getElem hi]; rfl⟩
  have hdl := depL_len ls ls.length
  have hrl := restF_len ls ls.length
  by_cases he : ls.length = 0
  · have h1 : depL ls ls.length = [] := List.eq_nil_of_length_eq_zero (by omega)
    have h2 : restF ls ls.length = [] := List.eq_nil_of_length_eq_zero (by omega)
    rw [h1, h2]
  · have m1 := maxL_mem (fun x hx => (depL_le ls _ x hx).1) (l := depL ls ls.length) (by intro e; rw [e] at hdl; simp at hdl; omega)
    have m2 := maxL_mem (fun x hx => (restF_le ls _ x hx).1) (l := restF ls ls.length) (by intro e; rw [e] at hrl; simp at hrl; omega)
    obtain ⟨i, hi, e1⟩ := idx _ _ m1
    obtain ⟨j, hj, e2⟩ := idx _ _ m2
    obtain ⟨i0, a1, a2⟩ := hd.rst hr i (by omega) 1 (hr.pos i (by omega))
    obtain ⟨j0, b1, b2⟩ := hr.dep hd _ j rfl (by omega) 1 (hd.pos j (by omega))
    have c1 := maxL_le (get (restF ls ls.length) i0 (by omega))
    have c2 := maxL_le (get (depL ls ls.length) j0 (by omega))
    omega
/-! ### the layers -/
structure LayOK (ds : List Int) (i : Nat) (L : List (List Int)) : Prop where
  inc : ∀ d (h : d < L.length), (L[d]).Pairwise (· < ·)
  val : ∀ d (h : d < L.length), ∀ x ∈ L[d], ∃ k : Nat, x = k ∧ k < i ∧ ds[k]? = some ((d + 1 : Nat) : Int)
  sum : (L.map List.length).sum = i
  all : ∀ k, k < i → ∃ d, ds[k]? = some ((d + 1 : Nat) : Int) ∧ ∃ h : d < L.length, (k : Int) ∈ L[d]
theorem sum_modify (L : List (List Int)) (k : Nat) (x : Int) (h : k < L.length) : ((L.modify k (· ++ [x])).map List.length).sum = (L.map List.length).sum + 1 := by
  induction L generalizing k with
  | nil => simp at h
  | cons l L ih =>
    cases k with
    | zero => simp; omega
    | succ k =>
      simp only [List.modify_succ_cons, List.map_cons, List.sum_cons]
      rw [ih k (by simpa using h)]
      omega
theorem layTo_ok (ds : List Int) (h1 : ∀ x ∈ ds, 1 ≤ x) : ∀ i, i ≤ ds.length → LayOK ds i (layTo ds i) := by
  intro i
  induction i with
  | zero => intro _; exact ⟨fun d h => absurd h (by simp [layTo]), fun d h => absurd h (by simp [layTo]), rfl, fun k hk => absurd hk (by omega)⟩
  | succ i ih =>
    intro hi
    obtain ⟨hinc, hval, hsum, hall⟩ := ih (by omega)
    have hil : i < ds.length := hi
    obtain ⟨d, hd⟩ : ∃ d : Nat, ds[i] = ((d + 1 : Nat) : Int) := ⟨(ds[i] - 1).toNat, by have := h1 _ (List.getElem_mem hil); omega⟩
    have hdi : ds[i]? = some ((d + 1 : Nat) : Int) := by rw [List.getElem?_eq_getElem hil, hd]
    have hlt : layTo ds (i + 1) = (layTo ds i ++ List.replicate (d + 1 - (layTo ds i).length) []).modify d (· ++ [(i : Int)]) := by
      rw [layTo, hdi]
      simp only [Int.toNat_natCast, Nat.add_sub_cancel]
    obtain ⟨L, hL⟩ : ∃ L, layTo ds i = L := ⟨_, rfl⟩
    rw [hL] at hinc hval hsum hall hlt
    rw [hlt]
    obtain ⟨M, hM⟩ : ∃ M, L ++ List.replicate (d + 1 - L.length) [] = M := ⟨_, rfl⟩
    have hMl : L.length ≤ M.length ∧ d < M.length := by
      rw [← hM, List.length_append, List.length_replicate]; omega
    have hMget : ∀ q (h : q < M.length), M[q] = if h2 : q < L.length then L[q] else [] := fun q h => by
      subst hM
      rw [List.getElem_append]
      split <;> simp
    have hMinc : ∀ q (h : q < M.length), (M[q]).Pairwise (· < ·) := fun q h => by
      rw [hMget q h]; split
      · exact hinc q _
      · exact .nil
    have hMval : ∀ q (h : q < M.length), ∀ x ∈ M[q], ∃ k : Nat, x = k ∧ k < i ∧ ds[k]? = some ((q + 1 : Nat) : Int) := fun q h x hx => by
      rw [hMget q h] at hx
      split at hx
      · exact hval q _ x hx
      · cases hx
    have hMsum : (M.map List.length).sum = i := by
      rw [← hM, List.map_append, List.sum_append, hsum]
      simp
    rw [hM]
    refine ⟨fun q h => ?_, fun q h x hx => ?_, ?_, fun k hk => ?_⟩
    · rw [List.length_modify] at h
      rw [List.getElem_modify]
      split
      · exact pw_snoc (hMinc q h) fun x hx => by obtain ⟨k, rfl, hk, _⟩ := hMval q h x hx; omega
      · exact hMinc q h
    · rw [List.length_modify] at h
      rw [List.getElem_modify] at hx
      split at hx
      · rename_i e
        subst e
        rcases List.mem_append.1 hx with hx | hx
        · obtain ⟨k, h2, h3, h4⟩ := hMval d h x hx
          exact ⟨k, h2, by omega, h4⟩
        · exact ⟨i, List.mem_singleton.1 hx, by omega, hdi⟩
      · obtain ⟨k, h2, h3, h4⟩ := hMval q h x hx
        exact ⟨k, h2, by omega, h4⟩
    · rw [sum_modify _ _ _ hMl.2, hMsum]
    · by_cases e : k = i
      · subst e
        refine ⟨d, hdi, by rw [List.length_modify]; exact hMl.2, ?_⟩
        rw [List.getElem_modify, if_pos rfl]
        simp
      · obtain ⟨q, h2, h3, h4⟩ := hall k (by omega)
        have hqM : q < M.length := by omega
        refine ⟨q, h2, by rw [List.length_modify]; exact hqM, ?_⟩
        rw [List.getElem_modify]
        have : (k : Int) ∈ M[q] := by rw [hMget q hqM, dif_pos h3]; exact h4
        split
        · exact List.mem_append_left _ this
        · exact this
theorem layTo_len (ds : List Int) (h1 : ∀ x ∈ ds, 1 ≤ x) : ∀ i, i ≤ ds.length → (layTo ds i).length = (maxL (ds.take i)).toNat := by
  intro i
  induction i with
  | zero => intro _; rfl
  | succ i ih =>
    intro hi
    have hil : i < ds.length := hi
    have h2 := h1 _ (List.getElem_mem hil)
    have happ : ∀ l : List Int, ∀ x, 0 ≤ x → maxL (l ++ [x]) = max (maxL l) x := by
      intro l x hx
      induction l with
      | nil => show max x 0 = max 0 x; omega
      | cons y l ih2 => show max y (maxL (l ++ [x])) = max (max y (maxL l)) x; omega
    have h0 := maxL_nonneg (ds.take i)
    rw [layTo, List.getElem?_eq_getElem hil, List.take_succ_eq_append_getElem hil, happ _ _ (by omega)]
    simp only [List.length_modify, List.length_append, List.length_replicate]
    rw [ih (by omega)]
    omega
end Go.Proofs.Ytcfleoaldoebhaa

namespace Go.Proofs.Ytcfleoaldoebhaa
set_option linter.unusedVariables false
theorem getD_set (K : List Int) (k j : Nat) (x : Int) (hk : k < K.length) : (K.set k x).getD j 0 = if j = k then x else K.getD j 0 := by
  rw [List.getD_eq_getElem?_getD, List.getD_eq_getElem?_getD, List.getElem?_set]
  split
  · rename_i e; subst e; simp
  · rename_i e; rw [if_neg (fun h => e h.symm)]
theorem getD_rep (n k : Nat) : (List.replicate n (0 : Int)).getD k 0 = 0 := by
  rw [List.getD_eq_getElem?_getD, List.getElem?_replicate]; split <;> rfl
theorem at_of (K : List Int) {k : Nat} {x : Int} (hk : k < K.length) (h : K.getD k 0 = x) : (K.map iA)[k]? = some (iA x) := by
  rw [List.getD_eq_getElem?_getD, List.getElem?_eq_getElem hk] at h
  rw [List.getElem?_map, List.getElem?_eq_getElem hk]
  simp at h
  rw [h]; rfl
theorem maxL_bd {l : List Int} {n : Int} (h : ∀ x ∈ l, x ≤ n) (h0 : 0 ≤ n) : maxL l ≤ n := by
  induction l with
  | nil => exact h0
  | cons y l ih =>
    have h1 := h y (by simp)
    have h2 := ih fun x hx => h x (by simp [hx])
    show max y (maxL l) ≤ n
    omega
theorem right_ps (ls : List Sys) (hl : ls.length ≤ 24) (hs : ∀ s ∈ ls, SysSm s) : PS Try.prog 36 [syssA false ls, layA false false (layTo (depL ls ls.length) ls.length)] (bA true) := by
  refine Spec.of (nt := 102) (res := [.tmp 4]) Try.func36 rfl (by kernel_rfl) rfl rfl rfl fun Sf => ?_
  have hdk := dep_ok ls
  have hlay := layTo_ok (depL ls ls.length) (fun x hx => (depL_le ls _ x hx).1) ls.length (by rw [depL_len]; exact Nat.le_refl _)
  have hdb := depL_le ls ls.length
  have hdl := depL_len ls ls.length
  obtain ⟨ds, hds⟩ : ∃ ds, depL ls ls.length = ds := ⟨_, rfl⟩
  rw [hds] at hdk hlay hdb hdl ⊢
  obtain ⟨LL, hLL⟩ : ∃ LL, layTo ds ls.length = LL := ⟨_, rfl⟩
  rw [hLL] at hlay ⊢
  obtain ⟨hinc, hval, hsum, hall⟩ := hlay
  obtain ⟨n, hn⟩ : ∃ n, ls.length = n := ⟨_, rfl⟩
  have hlm : (ls.map (sysA false)).length = n := by rw [List.length_map, hn]
  rw [hn] at hdk hval hsum hall hdl hl hdb
  have hq : ∀ k d : Nat, ds[k]? = some ((d + 1 : Nat) : Int) → ds.getD k 0 = ((d + 1 : Nat) : Int) := fun k d h => by rw [List.getD_eq_getElem?_getD, h]; rfl
  have hLn : LL.length ≤ 24 := by
    have h1 := layTo_len ds (fun x hx => (hdb x hx).1) n (by omega)
    rw [hn] at hLL
    rw [hLL] at h1
    have h2 := maxL_bd (l := ds.take n) (n := n) (fun x hx => (hdb x (List.mem_of_mem_take hx)).2) (by omega)
    omega
  have hlm2 : (ls.map (sysA false)).length ≤ 1099511627776 := by omega
  have hLlen : ∀ d (h : d < LL.length), (LL[d]).length ≤ n := by
    intro d h
    have : ∀ (L : List (List Int)) (d : Nat) (h : d < L.length), (L[d]).length ≤ (L.map List.length).sum := by
      intro L
      induction L with
      | nil => intro d h; simp at h
      | cons l L ih =>
        intro d h
        cases d with
        | zero => simp
        | succ d => have := ih d (by simpa using h); simp only [List.getElem_cons_succ, List.map_cons, List.sum_cons]; omega
    have := this LL d h
    omega
  have htsum : ∀ d, d ≤ LL.length → ((LL.take d).map List.length).sum ≤ n := by
    intro d _
    have : ((LL.take d).map List.length).sum + ((LL.drop d).map List.length).sum = (LL.map List.length).sum := by
      rw [← List.sum_append, ← List.map_append, List.take_append_drop]
    omega
  (repeat (first | (refine AOps.gN ?_; first | (refine AOps.g_make ?_; refine AOps.goM (iA 0) fun K => ?_)) | refine WK ?_ | refine All.i fun X => ?_ | refine AllY.i fun Y => ?_))
  have hrep : List.replicate (ls.map (sysA false)).length (iA 0) = (List.replicate n (0 : Int)).map iA := by rw [List.map_replicate, hlm]
  rw [hrep]
  refine AWP.lp3 (fun (d : Nat) (M : List AV) (cnt : Int) => ⟨[(0, syssA false ls), (5, .sl K 0 (ls.map (sysA false)).length), (6, iA cnt), (16, layA false false LL), (17, iA (LL.map (lay1 false)).length), (18, iA d)], (K, .row 3 1 M) :: Sf⟩) (fun d M cnt => d ≤ LL.length ∧ cnt = ((LL.take d).map List.length).sum ∧ ∃ B : List Int, M = B.map iA ∧ B.length = n ∧ ∀ k, k < n → B.getD k 0 = if ds.getD k 0 ≤ d then ds.getD k 0 else 0) (fun d _ _ => LL.length - d) 0 _ 0 ⟨Nat.zero_le _, rfl, List.replicate n 0, rfl, by simp, fun k hk => by have := hdk.pos k hk; rw [getD_rep, if_neg (by omega)]⟩ ?_
  rintro d M cnt ⟨hd, hcnt, B, rfl, hBl, hB⟩
  have hts := htsum d hd
  (repeat (first | refine WK ?_ | refine All.i fun X => ?_ | refine AllY.i fun Y => ?_))
  refine AWP.cond rfl (fun hc => ?_) (fun hc => ?_)
  · have h : d < LL.length := by rw [decide_eq_true_eq, List.length_map] at hc; omega
    have hld := hLlen d h
    (repeat (first | refine WK ?_ | refine All.i fun X => ?_ | refine AllY.i fun Y => ?_))
    refine AWP.lp3 (fun (i : Nat) (M : List AV) (cnt : Int) => ⟨[(0, syssA false ls), (5, .sl K 0 (ls.map (sysA false)).length), (6, iA cnt), (7, iA d), (8, lay1 false LL[d]), (16, layA false false LL), (17, iA (LL.map (lay1 false)).length), (18, iA d), (23, lay1 false LL[d]), (24, iA (LL[d].map iA).length), (25, iA i)], (K, .row 3 1 M) :: Sf⟩) (fun i M cnt => i ≤ LL[d].length ∧ cnt = ((LL.take d).map List.length).sum + i ∧ ∃ B : List Int, M = B.map iA ∧ B.length = n ∧ ∀ k, k < n → B.getD k 0 = if ds.getD k 0 ≤ d ∨ (k : Int) ∈ LL[d].take i then ds.getD k 0 else 0) (fun i _ _ => LL[d].length - i) 0 _ cnt ⟨Nat.zero_le _, by omega, B, rfl, hBl, fun k hk => by rw [hB k hk]; simp⟩ ?_
    clear hcnt hB hBl B cnt
    rintro i M cnt ⟨hi, hcnt, B, rfl, hBl, hB⟩
    (repeat (first | refine WK ?_ | refine All.i fun X => ?_ | refine AllY.i fun Y => ?_))
    refine AWP.cond rfl (fun he => ?_) (fun he => ?_)
    · have hil : i < LL[d].length := by rw [decide_eq_true_eq, List.length_map] at he; omega
      obtain ⟨k, hxk, hkn, hdk2⟩ := hval d h _ (List.getElem_mem hil)
      have hdk3 := hq k d hdk2
      have hkB : k < B.length := by omega
      have hnot : (k : Int) ∉ LL[d].take i := by
        intro hm
        obtain ⟨j, hj, e⟩ := List.mem_take_iff_getElem.1 hm
        have := List.pairwise_iff_getElem.1 (hinc d h) j i (by omega) hil (by omega)
        omega
      have hB0 : B.getD k 0 = 0 := by
        rw [hB k hkn, if_neg]
        rintro (h1 | h1)
        · omega
        · exact hnot h1
      have hat := at_of B hkB hB0
      have hatk : (LL[d].map iA)[i]? = some (iA k) := by rw [List.getElem?_map, List.getElem?_eq_getElem hil, hxk]; rfl
      have g1 : decide ((k : Int) < 0) = false := decide_eq_false (by omega)
      have g2 : decide (((ls.map (sysA false)).length : Int) ≤ k) = false := decide_eq_false (by rw [hlm]; omega)
      have hklm : k < (ls.map (sysA false)).length := by omega
      have hst : (B.map iA).set k (iA ((d : Int) + 1)) = (B.set k ((d : Int) + 1)).map iA := by rw [List.map_set]
      have hnext : ∀ k', k' < n → (B.set k ((d : Int) + 1)).getD k' 0 = if ds.getD k' 0 ≤ d ∨ (k' : Int) ∈ LL[d].take (i + 1) then ds.getD k' 0 else 0 := by
        intro k' hk'
        rw [getD_set B k k' _ hkB, List.take_succ_eq_append_getElem hil, hxk]
        by_cases e : k' = k
        · subst e
          rw [if_pos rfl, if_pos (.inr (by simp)), hdk3]; simp
        · rw [if_neg e, hB k' hk']
          have : ((k' : Int) ∈ LL[d].take i ++ [(k : Int)]) ↔ (k' : Int) ∈ LL[d].take i := by
            simp only [List.mem_append, List.mem_singleton]
            constructor
            · rintro (h | h)
              · exact h
              · omega
            · exact .inl
          simp only [this]
      by_cases hi0 : i = 0
      · subst hi0
        have g3 : decide ((0 : Int) < (0 : Nat)) = false := rfl
        (repeat (first | refine WK ?_ | refine All.i fun X => ?_ | refine AllY.i fun Y => ?_))
        refine AWP.cond_f rfl rfl ?_
        (repeat (first | refine WK ?_ | refine All.i fun X => ?_ | refine AllY.i fun Y => ?_))
        refine lp_next3 1 _ (cnt + 1) ⟨by omega, by omega, _, hst, by rw [List.length_set]; exact hBl, hnext⟩
      · have g3 : decide ((0 : Int) < i) = true := decide_eq_true (by omega)
        have hi1 : i - 1 < LL[d].length := by omega
        have hat2 : (LL[d].map iA)[i - 1]? = some (iA LL[d][i - 1]) := by rw [List.getElem?_map, List.getElem?_eq_getElem hi1]; rfl
        have hlt := List.pairwise_iff_getElem.1 (hinc d h) (i - 1) i hi1 hil (by omega)
        have g4 : decide ((k : Int) ≤ LL[d][i - 1]) = false := decide_eq_false (by omega)
        (repeat (first | (refine AOps.gN ?_; first | refine AOps.p (W.subE ((i - 1 : Nat) : Int) (by omega) (by omega) rfl rfl) rfl ?_) | refine WK ?_ | refine All.i fun X => ?_ | refine AllY.i fun Y => ?_))
        refine AWP.cond_f rfl g4 ?_
        (repeat (first | refine WK ?_ | refine All.i fun X => ?_ | refine AllY.i fun Y => ?_))
        refine lp_next3 (i + 1) _ (cnt + 1) ⟨hil, by omega, _, hst, by rw [List.length_set]; exact hBl, hnext⟩
    · have hil : i = LL[d].length := by rw [decide_eq_false_iff_not, List.length_map] at he; omega
      subst hil
      (repeat (first | refine WK ?_ | refine All.i fun X => ?_ | refine AllY.i fun Y => ?_))
      refine lp_next3 (d + 1) _ cnt ⟨h, ?_, B, rfl, hBl, fun k hk => ?_⟩
      · rw [hcnt, List.take_succ_eq_append_getElem h, List.map_append, List.sum_append]
        simp
      · rw [hB k hk, List.take_length]
        obtain ⟨q, e1, e2, e3⟩ := hall k hk
        have e4 := hq k q e1
        by_cases hqd : q = d
        · subst hqd
          rw [if_pos (.inr e3), if_pos (by omega)]
        · have : (k : Int) ∉ LL[d] := by
            intro hm
            obtain ⟨k2, e5, _, e6⟩ := hval d h _ hm
            have : k2 = k := by omega
            subst this
            have := hq k2 d e6
            omega
          by_cases hle : ds.getD k 0 ≤ d
          · rw [if_pos (.inl hle), if_pos (by omega)]
          · rw [if_neg (fun h => by rcases h with h | h; exact hle h; exact this h), if_neg (by omega)]
  · have h : d = LL.length := by rw [decide_eq_false_iff_not, List.length_map] at hc; omega
    subst h
    have hcn : decide (cnt ≠ ((ls.map (sysA false)).length : Int)) = false := by
      rw [decide_eq_false_iff_not, hlm, hcnt, List.take_length, hsum]; simp
    (repeat (first | refine WK ?_ | refine All.i fun X => ?_ | refine AllY.i fun Y => ?_))
    refine AWP.cond_f rfl hcn ?_
    have hBd : ∀ k, k < n → B.getD k 0 = ds.getD k 0 := fun k hk => by
      obtain ⟨q, e1, e2, e3⟩ := hall k hk
      have e4 := hq k q e1
      rw [hB k hk, if_pos (by omega)]
    have hsl : ∀ k, k < ls.length → k < n := fun k hk => by omega
    (repeat (first | refine WK ?_ | refine All.i fun X => ?_ | refine AllY.i fun Y => ?_))
    refine AWP.lp (fun i : Nat => ⟨[(0, syssA false ls), (5, .sl K 0 (ls.map (sysA false)).length), (72, iA (ls.map (sysA false)).length), (73, iA i)], (K, .row 3 1 (B.map iA)) :: Sf⟩) (fun i => i ≤ n) (fun i => n - i) 0 (Nat.zero_le _) ?_
    rintro i hi
    (repeat (first | refine WK ?_ | refine All.i fun X => ?_ | refine AllY.i fun Y => ?_))
    refine AWP.cond rfl (fun he => ?_) (fun he => ?_)
    · have h : i < n := by rw [decide_eq_true_eq] at he; omega
      have hil : i < ls.length := by omega
      have hai := at_of B (k := i) (by omega) (hBd i h)
      (repeat (first | refine WK ?_ | refine All.i fun X => ?_ | refine AllY.i fun Y => ?_))
      refine AWP.lp (fun j : Nat => ⟨[(0, syssA false ls), (5, .sl K 0 (ls.map (sysA false)).length), (11, iA i), (72, iA (ls.map (sysA false)).length), (73, iA i), (76, iA i), (77, iA j)], (K, .row 3 1 (B.map iA)) :: Sf⟩) (fun j => j ≤ i) (fun j => i - j) 0 (Nat.zero_le _) ?_
      rintro j hj
      (repeat (first | refine WK ?_ | refine All.i fun X => ?_ | refine AllY.i fun Y => ?_))
      refine AWP.cond rfl (fun hg => ?_) (fun hg => ?_)
      · have hji : j < i := by rw [decide_eq_true_eq] at hg; omega
        have hjl : j < ls.length := by omega
        have haj := at_of B (k := j) (by omega) (hBd j (by omega))
        have hcf := conflict_ps ls[j] ls[i] (hs _ (List.getElem_mem hjl)) (hs _ (List.getElem_mem hil))
        have hca := confAt_eq (ls := ls) hil hjl
        obtain ⟨b, hb⟩ : ∃ b, confl ls[j] ls[i] = b := ⟨_, rfl⟩
        rw [hb] at hcf hca
        (repeat (first | refine WK ?_ | refine All.i fun X => ?_ | refine AllY.i fun Y => ?_))
        cases b
        · (repeat refine WF ?_); refine AWP.region_run (by kernel_rfl) (by kernel_rfl) ?_; (repeat (first | (refine RGo.gN ?_; first | (refine RGo.g_callf ?_; first | refine RGo.c2 (h := (hcf ..)) (k := ?_))) | (refine RGo.gQ ?_; first | (refine RGo.g_callf ?_; first | refine RGo.c2 (h := (hcf ..)) (k := ?_))) | refine RK ?_ | refine RGo.nil (by kernel_rfl) ?_))
          refine AWP.cond_f rfl rfl ?_
          (repeat (first | refine WK ?_ | refine All.i fun X => ?_ | refine AllY.i fun Y => ?_))
          exact lp_next (j + 1) hji
        · have hup := hdk.up j i hji h hca
          have g5 : decide (ds.getD i 0 ≤ ds.getD j 0) = false := decide_eq_false (by omega)
          (repeat refine WF ?_); refine AWP.region_run (by kernel_rfl) (by kernel_rfl) ?_; (repeat (first | (refine RGo.gN ?_; first | (refine RGo.g_callf ?_; first | refine RGo.c2 (h := (hcf ..)) (k := ?_))) | (refine RGo.gQ ?_; first | (refine RGo.g_callf ?_; first | refine RGo.c2 (h := (hcf ..)) (k := ?_))) | refine RK ?_ | refine RGo.nil (by kernel_rfl) ?_))
          refine AWP.cond_f rfl g5 ?_
          (repeat (first | refine WK ?_ | refine All.i fun X => ?_ | refine AllY.i fun Y => ?_))
          exact lp_next (j + 1) hji
      · (repeat (first | refine WK ?_ | refine All.i fun X => ?_ | refine AllY.i fun Y => ?_))
        exact lp_next (i + 1) h
    · (repeat (first | refine WK ?_ | refine All.i fun X => ?_ | refine AllY.i fun Y => ?_))
      (refine AWP.ret ?_; (repeat (first | refine inB_r ?_ | refine andThen_r ?_)); refine retQ_r ?_); refine Ends.ps ?_
      rfl
end Go.Proofs.Ytcfleoaldoebhaa

namespace Go.Proofs.Ytcfleoaldoebhaa
set_option linter.unusedVariables false
set_option maxHeartbeats 2000000 in
theorem chain_ps (ls : List Sys) (hl : ls.length ≤ 24) (hs : ∀ s ∈ ls, SysSm s) : PS Try.prog 35 [syssA false ls] (.tup [intsA true ((outTo ls (restF ls ls.length) (maxL (restF ls ls.length)) ls.length).map fun k : Nat => (k : Int)), iA 0]) := by
  refine Spec.of (nt := 109) (res := [.tmp 2, .tmp 3]) Try.func35 rfl (by kernel_rfl) rfl rfl rfl fun Sf => ?_
  obtain ⟨n, hn⟩ : ∃ n, ls.length = n := ⟨_, rfl⟩
  have hlm : (ls.map (sysA false)).length = n := by rw [List.length_map, hn]
  have hrl := restF_len ls
  have hrb := restF_le ls
  rw [hn] at hl ⊢
  have hg0 : decide (24 < ((ls.map (sysA false)).length : Int)) = false := decide_eq_false (by omega)
  have hlm2 : (ls.map (sysA false)).length ≤ 1099511627776 := by omega
  (repeat refine WF ?_); refine AWP.region ?_; (repeat (first | refine WO ?_ | refine All.i fun X => ?_ | refine AllY.i fun Y => ?_)); refine AOps.nil ?_; (repeat refine WN ?_)
  (repeat refine WF ?_); refine AWP.region ?_; (repeat (first | refine WO ?_ | refine All.i fun X => ?_ | refine AllY.i fun Y => ?_)); refine AOps.nil ?_; (repeat refine WN ?_)
  refine AWP.cond_f rfl hg0 ?_
  (repeat (first | (refine AOps.gN ?_; first | (refine AOps.g_make ?_; refine AOps.goM (iA 0) fun K => ?_)) | refine WK ?_ | refine All.i fun X => ?_ | refine AllY.i fun Y => ?_))
  have hrep : List.replicate (ls.map (sysA false)).length (iA 0) = (List.replicate n (0 : Int)).map iA := by rw [List.map_replicate, hlm]
  rw [hrep]
  have hnn : (((ls.map (sysA false)).length : Int) - 1) = (n : Int) - 1 := by omega
  rw [hnn]
  refine AWP.lp3 (fun (k : Nat) (M : List AV) (best : Int) => ⟨[(0, syssA false ls), (4, .sl K 0 (ls.map (sysA false)).length), (5, iA best), (6, iA ((k : Int) - 1))], (K, .row 3 1 M) :: Sf⟩) (fun k M best => k ≤ n ∧ best = maxL (restF ls (n - k)) ∧ M = (List.replicate k 0 ++ restF ls (n - k)).map iA) (fun k _ _ => k) n ((List.replicate n (0 : Int)).map iA) 0 ⟨Nat.le_refl _, by rw [Nat.sub_self]; rfl, by rw [Nat.sub_self, restF, List.append_nil]⟩ ?_
  rintro k M best ⟨hk, hbest, rfl⟩
  (repeat (first | refine WK ?_ | refine All.i fun X => ?_ | refine AllY.i fun Y => ?_))
  refine AWP.cond rfl (fun hc => ?_) (fun hc => ?_)
  · have hk1 : 1 ≤ k := by rw [decide_eq_true_eq] at hc; omega
    obtain ⟨i, rfl⟩ : ∃ i, k = i + 1 := ⟨k - 1, by omega⟩
    have hki : (((i + 1 : Nat) : Int) - 1) = (i : Int) := by omega
    rw [hki]
    obtain ⟨c, hcn⟩ : ∃ c, n - (i + 1) = c := ⟨_, rfl⟩
    have hni : n - i = c + 1 := by omega
    rw [hcn] at hbest ⊢
    have hcl := hrl c
    have hcb := hrb c
    obtain ⟨suf, hsuf⟩ : ∃ suf, restF ls c = suf := ⟨_, rfl⟩
    rw [hsuf] at hbest hcl hcb ⊢
    have e0 : (List.replicate (i + 1) 0 ++ suf) = List.replicate i 0 ++ 0 :: suf := by
      rw [List.replicate_succ', List.append_assoc]; rfl
    rw [e0]
    have hsm := set_mid (List.replicate i 0) suf
    rw [List.length_replicate] at hsm
    have hgm := get_mid (List.replicate i 0) suf
    rw [List.length_replicate] at hgm
    have hg0 := hgm 0
    have hil : i < (ls.map (sysA false)).length := by omega
    have hi : i < ls.length := by omega
    (repeat (first | refine WK ?_ | refine All.i fun X => ?_ | refine AllY.i fun Y => ?_))
    refine AWP.lp3 (fun (t : Nat) (M : List AV) (x : Int) => ⟨[(0, syssA false ls), (4, .sl K 0 (ls.map (sysA false)).length), (5, iA best), (6, iA i), (7, iA x)], (K, .row 3 1 M) :: Sf⟩) (fun t M x => t ≤ c ∧ M = (List.replicate i 0 ++ accR ls suf i t :: suf).map iA ∧ x = ((i + 1 + t : Nat) : Int)) (fun t _ _ => c - t) 0 _ ((i : Int) + 1) ⟨Nat.zero_le _, hsm 0 1, by omega⟩ ?_
    rintro t M x ⟨ht, rfl, rfl⟩
    have hac := accR_le (ls := ls) (n := c) (by omega) hcb i t (by rw [hcl]; exact ht)
    (repeat (first | refine WK ?_ | refine All.i fun X => ?_ | refine AllY.i fun Y => ?_))
    refine AWP.cond rfl (fun he => ?_) (fun he => ?_)
    · have htc : t < c := by rw [decide_eq_true_eq] at he; omega
      have hjl : i + 1 + t < ls.length := by omega
      have hjm : i + 1 + t < (ls.map (sysA false)).length := by omega
      have hts : t < suf.length := by omega
      obtain ⟨y, hy⟩ : ∃ y, suf[t] = y := ⟨_, rfl⟩
      have hyb := hcb _ (List.getElem_mem hts)
      rw [hy] at hyb
      have hca := confAt_eq (ls := ls) hjl hi
      have hcf := conflict_ps ls[i] ls[i + 1 + t] (hs _ (List.getElem_mem hi)) (hs _ (List.getElem_mem hjl))
      obtain ⟨b, hb⟩ : ∃ b, confl ls[i] ls[i + 1 + t] = b := ⟨_, rfl⟩
      rw [hb] at hca hcf
      obtain ⟨ac, hacc⟩ : ∃ ac, accR ls suf i t = ac := ⟨_, rfl⟩
      rw [hacc] at hac ⊢
      have hgi := hgm ac
      have hgj : ((List.replicate i 0 ++ ac :: suf).map iA)[i + 1 + t]? = some (iA y) := by
        rw [List.getElem?_map, List.getElem?_append_right (by rw [List.length_replicate]; omega), List.length_replicate, show i + 1 + t - i = t + 1 by omega, List.getElem?_cons_succ, List.getElem?_eq_getElem hts, hy]; rfl
      have hnx : accR ls suf i (t + 1) = if b then max ac (y + 1) else ac := by
        rw [accR, hca, hacc]; simp [List.getD, hts, hy]
      (repeat refine WF ?_); refine AWP.region_run (by kernel_rfl) (by kernel_rfl) ?_; (repeat (first | (refine RGo.gN ?_; first | (refine RGo.g_callf ?_; first | refine RGo.c2 (h := (hcf ..)) (k := ?_))) | (refine RGo.gQ ?_; first | (refine RGo.g_callf ?_; first | refine RGo.c2 (h := (hcf ..)) (k := ?_))) | refine RK ?_ | refine RGo.nil (by kernel_rfl) ?_))
      cases b
      · refine AWP.cond_f rfl rfl ?_
        (repeat (first | refine WK ?_ | refine All.i fun X => ?_ | refine AllY.i fun Y => ?_))
        refine lp_next3 (t + 1) _ (((i + 1 + t : Nat) : Int) + 1) ⟨htc, ?_, by omega⟩
        rw [hnx]; rfl
      · refine AWP.cond_t rfl rfl ?_
        (repeat refine WF ?_); refine AWP.region_run (by kernel_rfl) (by kernel_rfl) ?_; (repeat (first | refine RK ?_ | refine RGo.nil (by kernel_rfl) ?_))
        (repeat (first | refine WK ?_ | refine All.i fun X => ?_ | refine AllY.i fun Y => ?_))
        refine lp_next3 (t + 1) _ (((i + 1 + t : Nat) : Int) + 1) ⟨htc, ?_, by omega⟩
        rw [hnx, if_pos rfl, show max ac (y + 1) = if ac < y + 1 then y + 1 else ac by split <;> omega]
        exact hsm ac _
    · have htc : t = c := by rw [decide_eq_false_iff_not] at he; omega
      subst htc
      obtain ⟨ac, hacc⟩ : ∃ ac, accR ls suf i t = ac := ⟨_, rfl⟩
      rw [hacc] at hac ⊢
      have hgi := hgm ac
      (repeat (first | refine WK ?_ | refine All.i fun X => ?_ | refine AllY.i fun Y => ?_))
      refine lp_next3 i _ _ ⟨by omega, ?_, ?_⟩
      · rw [hni, restF, hsuf, show ls.length - 1 - t = i by omega, hacc, hbest]
        show _ = max ac (maxL suf)
        split <;> omega
      · rw [hni, restF, hsuf, show ls.length - 1 - t = i by omega, hacc]
  · have hk0 : k = 0 := by rw [decide_eq_false_iff_not] at hc; omega
    subst hk0
    rw [Nat.sub_zero] at hbest ⊢
    clear hc hk hnn hrep hg0
    have hrn := hrl n
    have hrbn := hrb n
    have hmx := maxL_bd (l := restF ls n) (n := n) (fun x hx => (hrbn x hx).2) (by omega)
    obtain ⟨rs, hrs⟩ : ∃ rs, restF ls n = rs := ⟨_, rfl⟩
    rw [hrs] at hbest hrn hrbn hmx ⊢
    rw [← hbest] at hmx ⊢
    rw [List.replicate_zero, List.nil_append]
    (repeat refine WF ?_); refine AWP.region ?_; (repeat (first | refine WO ?_ | refine All.i fun X => ?_ | refine AllY.i fun Y => ?_)); refine AOps.nil ?_; (repeat refine WN ?_)
    refine AWP.adopt (d := 8) 3 1 rfl fun Q => ?_
    (repeat (first | refine WK ?_ | refine All.i fun X => ?_ | refine AllY.i fun Y => ?_))
    refine AWP.lp4 (fun (j Q m : Nat) (M : List AV) => ⟨[(0, syssA false ls), (4, .sl K 0 (ls.map (sysA false)).length), (5, iA best), (8, .sl Q 0 m), (63, iA (ls.map (sysA false)).length), (64, iA j)], (Q, .row 3 1 M) :: (K, .row 3 1 (rs.map iA)) :: Sf⟩) (fun j _ m M => j ≤ n ∧ m = M.length ∧ M = (outTo ls rs best j).map (fun k : Nat => iA k)) (fun j _ _ _ => n - j) 0 Q 0 [] ⟨Nat.zero_le _, rfl, rfl⟩ ?_
    rintro j Q m M ⟨hj, hm, hM⟩
    have ho := outTo_len ls rs best (by rw [hbest]; exact maxL_nonneg rs) j
    have holt := outTo_lt ls rs best j
    have hnext : outTo ls rs best (j + 1) = if takes ls rs best (outTo ls rs best j) j then outTo ls rs best j ++ [j] else outTo ls rs best j := rfl
    unfold takes at hnext
    obtain ⟨o, hoe⟩ : ∃ o, outTo ls rs best j = o := ⟨_, rfl⟩
    rw [hoe] at hM ho holt hnext
    have hmo : o.length = m := by rw [hm, hM, List.length_map]
    rw [hmo] at ho hnext
    (repeat (first | refine WK ?_ | refine All.i fun X => ?_ | refine AllY.i fun Y => ?_))
    refine AWP.cond rfl (fun hc => ?_) (fun hc => ?_)
    · have h : j < n := by rw [decide_eq_true_eq] at hc; omega
      have hjr : j < rs.length := by omega
      have hjl : j < ls.length := by omega
      have hjm : j < (ls.map (sysA false)).length := by omega
      obtain ⟨y, hy⟩ : ∃ y, rs[j] = y := ⟨_, rfl⟩
      have hyb := hrbn _ (List.getElem_mem hjr)
      rw [hy] at hyb
      have hgr : (rs.map iA)[j]? = some (iA y) := by rw [List.getElem?_map, List.getElem?_eq_getElem hjr, hy]; rfl
      have hgd : rs.getD j 0 = y := by rw [List.getD_eq_getElem?_getD, List.getElem?_eq_getElem hjr, hy]; rfl
      rw [hgd] at hnext
      have hm1 : m + 1 ≤ 1099511627776 := by omega
      have hnl : (M ++ [iA j]).length = m + 1 := by rw [List.length_append, ← hm]; rfl
      have hno : M ++ [iA j] = (o ++ [j]).map (fun k : Nat => iA k) := by rw [List.map_append, hM]; rfl
      rcases Bool.eq_false_or_eq_true (decide ((m : Int) < best)) with g1 | g1
      · rw [g1] at hnext
        rcases Bool.eq_false_or_eq_true (decide (y = best - m)) with g2 | g2
        · rw [g2] at hnext
          by_cases hm0 : m = 0
          · have g3 : decide ((m : Int) = 0) = true := decide_eq_true (by omega)
            have ho0 : o = [] := List.eq_nil_of_length_eq_zero (by omega)
            rw [ho0] at hnext hno
            (repeat refine WF ?_); refine AWP.region ?_; (repeat (first | refine WO ?_ | refine All.i fun X => ?_ | refine AllY.i fun Y => ?_)); refine AOps.nil ?_; (repeat refine WN ?_)
            (repeat refine WF ?_); refine AWP.region_run (by kernel_rfl) (by kernel_rfl) ?_; (repeat (first | refine RK ?_ | refine RGo.nil (by kernel_rfl) ?_))
            refine AWP.cond_t rfl (by first | rfl | assumption) ?_
            (repeat (first | refine WK ?_ | refine All.i fun X => ?_ | refine AllY.i fun Y => ?_))
            refine lp_next4 (j + 1) Y (m + 1) _ ⟨h, ?_, ?_⟩
            · exact hnl.symm
            · rw [hnext, hno]; rfl
          · have g3 : decide ((m : Int) = 0) = false := decide_eq_false (by omega)
            have hm1l : m - 1 < o.length := by omega
            obtain ⟨k, hk⟩ : ∃ k, o[m - 1] = k := ⟨_, rfl⟩
            have hkl : k < ls.length := by have := holt _ (List.getElem_mem hm1l); omega
            have hkm : k < (ls.map (sysA false)).length := by omega
            have hM1 : M[m - 1]? = some (iA k) := by rw [hM, List.getElem?_map, List.getElem?_eq_getElem hm1l, hk]; rfl
            have hlast : o.getLast? = some k := by rw [List.getLast?_eq_getElem?, hmo, List.getElem?_eq_getElem hm1l, hk]
            rw [hlast] at hnext
            have hca := confAt_eq (ls := ls) hjl hkl
            have hcf := conflict_ps ls[k] ls[j] (hs _ (List.getElem_mem hkl)) (hs _ (List.getElem_mem hjl))
            obtain ⟨b, hb⟩ : ∃ b, confl ls[k] ls[j] = b := ⟨_, rfl⟩
            rw [hb] at hca hcf
            simp only [hca, Bool.true_and] at hnext
            (repeat refine WF ?_); refine AWP.region ?_; (repeat (first | refine WO ?_ | refine All.i fun X => ?_ | refine AllY.i fun Y => ?_)); refine AOps.nil ?_; (repeat refine WN ?_)
            have hme : ((m : Int) - 1) = ((m - 1 : Nat) : Int) := by omega
            cases b
            · (repeat refine WF ?_); refine AWP.region_run (by kernel_rfl) (by kernel_rfl) ?_; (repeat (first | (refine RGo.gN ?_; first | (refine RGo.g_callf ?_; first | refine RGo.c2 (h := (hcf ..)) (k := ?_)) | refine RGo.go (h := W.subE ((m - 1 : Nat) : Int) (by omega) (by omega) rfl rfl) (k := ?_)) | (refine RGo.gQ ?_; first | (refine RGo.g_callf ?_; first | refine RGo.c2 (h := (hcf ..)) (k := ?_)) | refine RGo.go (h := W.subE ((m - 1 : Nat) : Int) (by omega) (by omega) rfl rfl) (k := ?_)) | refine RK ?_ | refine RGo.nil (by kernel_rfl) ?_))
              refine AWP.cond_f rfl (by first | rfl | assumption) ?_
              (repeat (first | refine WK ?_ | refine All.i fun X => ?_ | refine AllY.i fun Y => ?_))
              refine lp_next4 (j + 1) Q m _ ⟨h, hm, ?_⟩
              rw [hnext]; exact hM
            · (repeat refine WF ?_); refine AWP.region_run (by kernel_rfl) (by kernel_rfl) ?_; (repeat (first | (refine RGo.gN ?_; first | (refine RGo.g_callf ?_; first | refine RGo.c2 (h := (hcf ..)) (k := ?_)) | refine RGo.go (h := W.subE ((m - 1 : Nat) : Int) (by omega) (by omega) rfl rfl) (k := ?_)) | (refine RGo.gQ ?_; first | (refine RGo.g_callf ?_; first | refine RGo.c2 (h := (hcf ..)) (k := ?_)) | refine RGo.go (h := W.subE ((m - 1 : Nat) : Int) (by omega) (by omega) rfl rfl) (k := ?_)) | refine RK ?_ | refine RGo.nil (by kernel_rfl) ?_))
              refine AWP.cond_t rfl (by first | rfl | assumption) ?_
              (repeat (first | refine WK ?_ | refine All.i fun X => ?_ | refine AllY.i fun Y => ?_))
              refine lp_next4 (j + 1) Y (m + 1) _ ⟨h, ?_, ?_⟩
              · exact hnl.symm
              · rw [hnext, hno]; rfl
        · rw [g2] at hnext
          (repeat refine WF ?_); refine AWP.region ?_; (repeat (first | refine WO ?_ | refine All.i fun X => ?_ | refine AllY.i fun Y => ?_)); refine AOps.nil ?_; (repeat refine WN ?_)
          (repeat refine WF ?_); refine AWP.region_run (by kernel_rfl) (by kernel_rfl) ?_; (repeat (first | (refine RGo.gQ ?_; first | refine RGo.goNU ?_ | refine RGo.goNV ?_) | refine RK ?_ | refine RGo.nil (by kernel_rfl) ?_))
          refine AWP.cond_f rfl (by first | rfl | assumption) ?_
          (repeat (first | refine WK ?_ | refine All.i fun X => ?_ | refine AllY.i fun Y => ?_))
          refine lp_next4 (j + 1) Q m _ ⟨h, hm, ?_⟩
          rw [hnext]; exact hM
      · rw [g1] at hnext
        (repeat refine WF ?_); refine AWP.region ?_; (repeat (first | refine WO ?_ | refine All.i fun X => ?_ | refine AllY.i fun Y => ?_)); refine AOps.nil ?_; (repeat refine WN ?_)
        (repeat refine WF ?_); refine AWP.region_run (by kernel_rfl) (by kernel_rfl) ?_; (repeat (first | (refine RGo.gQ ?_; first | refine RGo.goNU ?_ | refine RGo.goNV ?_) | refine RK ?_ | refine RGo.nil (by kernel_rfl) ?_))
        refine AWP.cond_f rfl (by first | rfl | assumption) ?_
        (repeat (first | refine WK ?_ | refine All.i fun X => ?_ | refine AllY.i fun Y => ?_))
        refine lp_next4 (j + 1) Q m _ ⟨h, hm, ?_⟩
        rw [hnext]; exact hM
    · have h : j = n := by rw [decide_eq_false_iff_not] at hc; omega
      subst h
      clear hc hnext
      subst hoe
      (repeat (first | refine WK ?_ | refine All.i fun X => ?_ | refine AllY.i fun Y => ?_))
      (refine AWP.ret ?_; (repeat (first | refine inB_r ?_ | refine andThen_r ?_)); refine retQ_r ?_)
      have hMo : M = ((outTo ls rs best j).map fun k : Nat => (k : Int)).map iA := by rw [hM, List.map_map]; rfl
      rw [hMo] at hm ⊢
      exact ⟨[.sl Q 0 m, iA 0], [intsA true ((outTo ls rs best j).map fun k : Nat => (k : Int)), iA 0], _, [], .cons (.tmp rfl) rfl (.cons (.tmp rfl) rfl .nil), .cons (.cell (.sl (p := 0) .here hm)) (.cons (.cell .same) .nil), by exact Sub.f, rfl, rfl⟩
end Go.Proofs.Ytcfleoaldoebhaa

namespace Go.Proofs.Ytcfleoaldoebhaa
set_option linter.unusedVariables false
open Go.RowKit
set_option maxHeartbeats 1000000 in
theorem planKeeps_ps (l m : List Int) : PS Try.prog 8 [intsA false l, intsA false m] (bA true) := by
  refine Spec.of (nt := 92) (res := [.tmp 4]) Try.func8 rfl (by kernel_rfl) rfl rfl rfl fun Sf => ?_
  have hko := genKinds_rng l
  obtain ⟨hk0, hkf⟩ := genKinds_ne l
  have hkE := kindsE_ps l
  obtain ⟨ks, hks⟩ : ∃ ks, (genKinds l).1 = ks := ⟨_, rfl⟩
  rw [hks] at hko hk0 hkf hkE
  have hsp := systems_sp ks m hko hkf hk0
  (repeat (first | (refine AOps.gN ?_; first | (refine AOps.g_callf ?_; first | refine AOps.c0 (h := (layered_ps ..)) (k := ?_))) | refine WK ?_ | refine All.i fun X => ?_ | refine AllY.i fun Y => ?_))
  refine AWP.cond_f rfl rfl ?_
  (repeat refine WF ?_); refine AWP.region ?_; (repeat (first | (refine AOps.gN ?_; first | (refine AOps.g_callf ?_; first | refine AOps.c1 (h := (hkE ..)) (k := ?_))) | refine WO ?_ | refine All.i fun X => ?_ | refine AllY.i fun Y => ?_))
  refine AOps.et2 (h := hsp) fun ss hss Y => ?_
  have hsm : ∀ s ∈ ss, SysSm s := fun s hs => by
    obtain ⟨i, hi, rfl⟩ := List.getElem_of_mem hs
    exact (hss.2 i hi).sm hko
  have hn5 := hss.1
  have hlm : (ss.map (sysA false)).length = ss.length := List.length_map _
  have hly := layers_ps ss (by omega) hsm
  have hch := chain_ps ss (by omega) hsm
  have hrt := right_ps ss (by omega) hsm
  have hll := layTo_len (depL ss ss.length) (fun x hx => (depL_le ss _ x hx).1) ss.length (by rw [depL_len]; exact Nat.le_refl _)
  have hol := out_len ss
  rw [← max_same] at hol
  rw [List.take_of_length_le (by rw [depL_len]; exact Nat.le_refl _), ← hol] at hll
  have hcn := outTo_chain ss (restF ss ss.length) (maxL (restF ss ss.length)) ss.length
  have hclt := outTo_lt ss (restF ss ss.length) (maxL (restF ss ss.length)) ss.length
  rw [max_same] at hll
  have hob := (outTo_len ss (restF ss ss.length) (maxL (restF ss ss.length)) (maxL_nonneg _) ss.length).2
  obtain ⟨LL, hLL⟩ : ∃ LL, layTo (depL ss ss.length) ss.length = LL := ⟨_, rfl⟩
  obtain ⟨o, ho⟩ : ∃ o, outTo ss (restF ss ss.length) (maxL (restF ss ss.length)) ss.length = o := ⟨_, rfl⟩
  rw [hLL] at hly hrt hll
  rw [ho] at hch hcn hclt hll hob
  obtain ⟨os, hos⟩ : ∃ os, (o.map fun k : Nat => (k : Int)) = os := ⟨_, rfl⟩
  rw [hos] at hch
  have hosl : os.length = o.length := by rw [← hos, List.length_map]
  (repeat (first | refine WO ?_ | refine All.i fun X => ?_ | refine AllY.i fun Y => ?_))
  (repeat first | refine AOps.nil ?_ | refine WF ?_)
  refine AWP.iceL 5 (ss.map (sysA false)) ?_ ?_
  · exact Frzs.h
  have hg : decide (((os.map iA).length : Int) ≠ (LL.map (lay1 false)).length) = false := by
    rw [decide_eq_false_iff_not]; simp [hosl, hll]
  (repeat refine WF ?_); refine AWP.region ?_; (repeat (first | (refine AOps.gN ?_; first | (refine AOps.g_callf ?_; first | refine AOps.c1 (h := (hly ..)) (k := ?_))) | refine WO ?_ | refine All.i fun X => ?_ | refine AllY.i fun Y => ?_)); refine AOps.nil ?_; (repeat refine WN ?_)
  (repeat refine WF ?_); refine AWP.region ?_; (repeat (first | (refine AOps.gN ?_; first | (refine AOps.g_callf ?_; first | refine AOps.c1 (h := (hch ..)) (k := ?_))) | refine WO ?_ | refine All.i fun X => ?_ | refine AllY.i fun Y => ?_)); refine AOps.nil ?_; (repeat refine WN ?_)
  (repeat refine WF ?_); refine AWP.region ?_; (repeat (first | (refine AOps.gN ?_; first | (refine AOps.g_callf ?_; first | refine AOps.c2 (h := (hrt ..)) (k := ?_))) | refine WO ?_ | refine All.i fun X => ?_ | refine AllY.i fun Y => ?_)); refine AOps.nil ?_; (repeat refine WN ?_)
  refine AWP.cond_f rfl hg ?_
  (repeat (first | refine WK ?_ | refine All.i fun X => ?_ | refine AllY.i fun Y => ?_))
  refine AWP.lp (fun i : Nat => ⟨[(5, syssA false ss), (8, intsA false os), (47, intsA false os), (48, iA (os.map iA).length), (49, iA i)], Sf⟩) (fun i => i ≤ o.length) (fun i => o.length - i) 0 (Nat.zero_le _) ?_
  rintro i hi
  (repeat (first | refine WK ?_ | refine All.i fun X => ?_ | refine AllY.i fun Y => ?_))
  refine AWP.cond rfl (fun hc => ?_) (fun hc => ?_)
  · have h : i < o.length := by rw [decide_eq_true_eq, List.length_map, hosl] at hc; omega
    obtain ⟨k, hk⟩ : ∃ k, o[i] = k := ⟨_, rfl⟩
    have hkl : k < ss.length := by have := hclt _ (List.getElem_mem h); omega
    have hkm : k < (ss.map (sysA false)).length := by omega
    have hat : (os.map iA)[i]? = some (iA k) := by rw [← hos, List.getElem?_map, List.getElem?_map, List.getElem?_eq_getElem h, hk]; rfl
    have g1 : decide ((k : Int) < 0) = false := decide_eq_false (by omega)
    have g2 : decide (((ss.map (sysA false)).length : Int) ≤ k) = false := decide_eq_false (by omega)
    by_cases h0 : i = 0
    · subst h0
      have g3 : decide ((0 : Int) < (0 : Nat)) = false := rfl
      (repeat refine WF ?_); refine AWP.region ?_; (repeat (first | refine WO ?_ | refine All.i fun X => ?_ | refine AllY.i fun Y => ?_)); refine AOps.nil ?_; (repeat refine WN ?_)
      (repeat refine WF ?_); refine AWP.region_run (by kernel_rfl) (by kernel_rfl) ?_; (repeat (first | (refine RGo.gQ ?_; first | refine RGo.goNU ?_ | refine RGo.goNV ?_) | refine RK ?_ | refine RGo.nil (by kernel_rfl) ?_))
      refine AWP.cond_f rfl (by first | rfl | assumption) ?_
      (repeat (first | refine WK ?_ | refine All.i fun X => ?_ | refine AllY.i fun Y => ?_))
      exact lp_next 1 h
    · have g3 : decide ((0 : Int) < i) = true := decide_eq_true (by omega)
      have h1 : i - 1 < o.length := by omega
      obtain ⟨k1, hk1⟩ : ∃ k, o[i - 1] = k := ⟨_, rfl⟩
      have hk1l : k1 < ss.length := by have := hclt _ (List.getElem_mem h1); omega
      have hk1m : k1 < (ss.map (sysA false)).length := by omega
      have hat1 : (os.map iA)[i - 1]? = some (iA k1) := by rw [← hos, List.getElem?_map, List.getElem?_map, List.getElem?_eq_getElem h1, hk1]; rfl
      obtain ⟨hlt, hcf⟩ := hcn (i - 1) k1 k (by rw [List.getElem?_eq_getElem h1, hk1]) (by rw [show i - 1 + 1 = i by omega, List.getElem?_eq_getElem h, hk])
      have hcps := conflict_ps ss[k1] ss[k] (hsm _ (List.getElem_mem hk1l)) (hsm _ (List.getElem_mem hkl))
      rw [← confAt_eq hkl hk1l, hcf] at hcps
      have g4 : decide ((k : Int) ≤ k1) = false := decide_eq_false (by omega)
      have hom : i - 1 < (os.map iA).length := by rw [List.length_map, hosl]; omega
      (repeat refine WF ?_); refine AWP.region ?_; (repeat (first | refine WO ?_ | refine All.i fun X => ?_ | refine AllY.i fun Y => ?_)); refine AOps.nil ?_; (repeat refine WN ?_)
      (repeat refine WF ?_); refine AWP.region_run (by kernel_rfl) (by kernel_rfl) ?_; (repeat (first | (refine RGo.gN ?_; first | (refine RGo.g_callf ?_; first | refine RGo.c2 (h := (hcps ..)) (k := ?_)) | refine RGo.go (h := W.subE ((i - 1 : Nat) : Int) (by omega) (by omega) rfl rfl) (k := ?_)) | (refine RGo.gQ ?_; first | refine RGo.goNU ?_ | refine RGo.goNV ?_ | (refine RGo.g_callf ?_; first | refine RGo.c2 (h := (hcps ..)) (k := ?_)) | refine RGo.go (h := W.subE ((i - 1 : Nat) : Int) (by omega) (by omega) rfl rfl) (k := ?_)) | refine RK ?_ | refine RGo.nil (by kernel_rfl) ?_))
      refine AWP.cond_f rfl (by first | rfl | assumption) ?_
      (repeat (first | refine WK ?_ | refine All.i fun X => ?_ | refine AllY.i fun Y => ?_))
      exact lp_next (i + 1) h
  · (repeat (first | refine WK ?_ | refine All.i fun X => ?_ | refine AllY.i fun Y => ?_))
    (refine AWP.ret ?_; (repeat (first | refine inB_r ?_ | refine andThen_r ?_)); refine retQ_r ?_); refine Ends.ps ?_
    rfl
theorem planKeeps_calls (l : List Int) (A0 : Option Addr) (n0 cap0 : Nat) (m : List Int) (A1 : Option Addr) (n1 cap1 : Nat) (w : World) (hl : Ints w (Lt w) (.slice A0 n0 cap0) l) (hlen : l.length * 8 ≤ 140737488351232) (h1 : Ints w (Lt w) (.slice A1 n1 cap1) m) (hlen1 : m.length * 8 ≤ 140737488351232) :
    Calls Try.prog 8 #[.slice A0 n0 cap0, .slice A1 n1 cap1] w fun e w' => e = .returned (.bool true) ∧ Below w.heap.size w w' :=
  (planKeeps_ps l m).calls_bool (vts_ints hl (vts_ints h1 vts_nil))
end Go.Proofs.Ytcfleoaldoebhaa
