/-
  Part 5 of the texts under the law TopSortedWorld: the layer of abstract values, walks and plain laws. Conditions: those that each theorem names.
-/
import Derived.Below
import Derived.Test.YtanokoededdceaaTopSortedWorldP4
namespace Go.Proofs.Ytanokoededdceaa
set_option linter.unusedVariables false
section
variable {α : Type} {key : α → Int} {l a b : List α}
/-- In strictly increasing order of a key. -/
def KS (key : α → Int) (l : List α) : Prop := l.Pairwise fun a b => key a < key b
end
/- Components. -/
theorem held_iff {ks : List Kind} {l : List Comp} : heldOf ks l = true ↔ SortC l ∧ ∀ c ∈ l, 0 ≤ c.kind ∧ c.kind < ks.length ∧ ∃ k, ks[c.kind.toNat]? = some k ∧ holdsOf k c.vals = true := by
  unfold heldOf
  rw [heldFrom_iff (by omega)]
  constructor
  · rintro ⟨h1, h2⟩
    exact ⟨h1, fun c hc => ⟨by have := (h2 c hc).1; omega, (h2 c hc).2⟩⟩
  · rintro ⟨h1, h2⟩
    exact ⟨h1, fun c hc => ⟨by have := (h2 c hc).1; omega, (h2 c hc).2⟩⟩
/- Fitting. -/
theorem kindsErr_one {pre ks : List Kind} (h : kindsErr pre ks = 0) : ∀ k ∈ ks, oneErr k = 0 := by
  induction ks generalizing pre with
  | nil => intro k hk; cases hk
  | cons x l ih =>
    intro k hk
    simp only [kindsErr] at h
    split at h
    · exact absurd h ‹_›
    · rename_i hx
      split at h
      · cases h
      · rcases List.mem_cons.1 hk with rfl | hk
        · simpa using hx
        · exact ih h k hk
theorem checkErr_one {ks : List Kind} (h : checkErr ks = 0) : ks.length ≤ 16 ∧ ∀ k ∈ ks, oneErr k = 0 := by
  unfold checkErr at h
  split at h
  · cases h
  · exact ⟨by omega, kindsErr_one h⟩
/-- The component with fitted values. -/
def fitC (ks : List Kind) (c : Comp) : Comp := match ks[c.kind.toNat]? with
  | some k => ⟨c.kind, (fitOf k c.vals).1⟩
  | none => c
/-- A component that fits. -/
def FitOK (ks : List Kind) (c : Comp) : Prop := 0 ≤ c.kind ∧ c.kind < ks.length ∧ ∃ k, ks[c.kind.toNat]? = some k ∧ (fitOf k c.vals).2 = 0
theorem fitC_eq {ks : List Kind} {c : Comp} {k : Kind} (h : ks[c.kind.toNat]? = some k) : fitC ks c = ⟨c.kind, (fitOf k c.vals).1⟩ := by
  unfold fitC; rw [h]
theorem fitGo_good {ks : List Kind} : ∀ {l pre out : List Comp}, (∀ c ∈ l, FitOK ks c) → l.Pairwise (fun a b => a.kind ≠ b.kind) → (∀ a ∈ pre, ∀ b ∈ l, a.kind ≠ b.kind) → fitGo ks pre out l = (out ++ l.map (fitC ks), 0)
  | [], pre, out, _, _, _ => by simp [fitGo]
  | c :: l, pre, out, h1, h2, h3 => by
    obtain ⟨a, b, k, hk, hf⟩ := h1 c (by simp)
    obtain ⟨h4, h5⟩ := List.pairwise_cons.1 h2
    have hany : pre.any (fun o => decide (o.kind = c.kind)) = false := by
      rw [List.any_eq_false]
      intro x hx
      simpa using h3 x hx c (by simp)
    rw [fitGo, if_neg (by omega), hany, if_neg (by simp), hk]
    dsimp only
    rw [if_neg (by simp [hf]), fitGo_good (fun d hd => h1 d (by simp [hd])) h5 (fun x hx d hd => ?_), List.map_cons, fitC_eq hk]
    · simp
    · rcases List.mem_append.1 hx with hx | hx
      · exact h3 x hx d (by simp [hd])
      · rw [List.mem_singleton.1 hx]; exact h4 d hd
theorem wFit_good {ks : List Kind} (hk : checkErr ks = 0) {l : List Comp} (h1 : ∀ c ∈ l, FitOK ks c) (h2 : l.Pairwise (fun a b => a.kind ≠ b.kind)) : wFit ks l = (kSort (l.map (fitC ks)), 0) := by
  unfold wFit
  rw [if_neg (by simp [hk]), fitGo_good h1 h2 (fun _ h => by cases h), if_neg (by simp)]
  rfl
theorem kSort_of {l : List Comp} (h : SortC l) : kSort l = l :=
  (kSort_uniq (h.imp fun h => by omega) (List.Perm.refl _) (h.imp fun h => by omega)).symm
theorem holds_fit {k : Kind} {v : List Int} (h : holdsOf k v = true) : fitOf k v = (v, 0) := by
  unfold holdsOf at h
  simp only [Bool.and_eq_true, decide_eq_true_eq] at h
  exact Prod.ext h.2 h.1
theorem fitOf_holds {k : Kind} {v : List Int} (h : (fitOf k v).2 = 0) : holdsOf k (fitOf k v).1 = true ∧ (fitOf k v).1 = List.zipWith nearOf k.fields v ∧ v.length = k.fields.length := by
  unfold fitOf at h ⊢
  split at h
  · exact absurd h ‹_›
  · rename_i h1
    have h1 : oneErr k = 0 := by simpa using h1
    split at h
    · cases h
    · rename_i h2
      have h2 : v.length = k.fields.length := by simpa using h2
      rw [if_neg (by simp [h1]), if_neg (by simp [h2])]
      refine ⟨?_, rfl, h2⟩
      unfold holdsOf
      rw [fitOf_ok h1 (by simp [h2]), near_fits (oneErr_zero h1).2.2]
      simp
theorem fit_held {ks : List Kind} {l : List Comp} (h : heldOf ks l = true) : (∀ c ∈ l, FitOK ks c) ∧ l.Pairwise (fun a b => a.kind ≠ b.kind) ∧ l.map (fitC ks) = l := by
  obtain ⟨hs, hm⟩ := held_iff.1 h
  refine ⟨fun c hc => ?_, hs.imp fun h => by omega, ?_⟩
  · obtain ⟨a, b, k, hk, hh⟩ := hm c hc
    exact ⟨a, b, k, hk, by rw [holds_fit hh]⟩
  · conv => rhs; rw [← List.map_id l]
    refine List.map_congr_left fun c hc => ?_
    obtain ⟨a, b, k, hk, hh⟩ := hm c hc
    rw [fitC_eq hk, holds_fit hh]
    rfl
theorem wFit_held {ks : List Kind} (hk : checkErr ks = 0) {l : List Comp} (h : heldOf ks l = true) : wFit ks l = (l, 0) := by
  obtain ⟨h1, h2, h3⟩ := fit_held h
  rw [wFit_good hk h1 h2, h3, kSort_of (held_iff.1 h).1]
/- Items. -/
def SortI (l : List Item) : Prop := KS (fun it => it.ent.n) l
/- Creating and removing. -/
theorem usedB_no {l : List Item} {n : Int} (h : usedB l n = false) : ∀ x ∈ l, x.ent.n ≠ n := by
  unfold usedB at h
  rw [List.any_eq_false] at h
  intro x hx
  simpa using h x hx
theorem free_facts {w : Wd} (hw : WdOK w) (h : (freeOf w).2 = true) : (freeOf w).1 ≤ w.gens.length ∧ (∀ x ∈ w.items, x.ent.n ≠ ((freeOf w).1 : Nat)) ∧ (freeOf w).1 < 256 ∧ ∀ g, w.gens[(freeOf w).1]? = some g → g < 1073741824 := by
  have hg := hw.gl
  unfold freeOf at h ⊢
  split at h
  · rename_i n hn
    unfold freeN at hn
    rw [List.find?_eq_some_iff_getElem] at hn
    obtain ⟨h1, i, h2, h3, h4⟩ := hn
    simp only [List.getElem_range] at h3
    subst h3
    rw [List.length_range] at h2
    simp only [Bool.and_eq_true, Bool.not_eq_true', decide_eq_true_eq] at h1
    refine ⟨by dsimp only; omega, usedB_no h1.1, by dsimp only; omega, fun g hgg => ?_⟩
    dsimp only at hgg
    have := h1.2
    rw [List.getD_eq_getElem?_getD, hgg] at this
    exact this
  · have h : w.gens.length < 256 := by dsimp only at h; rw [decide_eq_true_eq] at h; omega
    refine ⟨Nat.le_refl _, fun x hx => ?_, h, fun g hgg => ?_⟩
    · have := (hw.it x hx).2.1
      dsimp only
      omega
    · rw [List.getElem?_eq_none (Nat.le_refl _)] at hgg; cases hgg
theorem growG_at {gens : List Int} {n : Nat} (h : n ≤ gens.length) : n < (growG gens n).length ∧ (growG gens n)[n]? = some ((growG gens n).getD n 0) ∧ gens.length ≤ (growG gens n).length ∧ (∀ j, j < gens.length → (growG gens n)[j]? = gens[j]?) ∧ (∀ g ∈ growG gens n, g ∈ gens ∨ g = 0) ∧ (growG gens n).length ≤ max gens.length (n + 1) := by
  unfold growG
  split
  · rename_i e
    subst e
    refine ⟨by simp, by simp [List.getD_eq_getElem?_getD], by simp, fun j hj => List.getElem?_append_left hj, fun g hg => ?_, by simp⟩
    rcases List.mem_append.1 hg with h | h
    · exact .inl h
    · exact .inr (List.mem_singleton.1 h)
  · refine ⟨by omega, ?_, Nat.le_refl _, fun _ _ => rfl, fun g hg => .inl hg, by omega⟩
    rw [List.getD_eq_getElem?_getD, List.getElem?_eq_getElem (by omega)]
    rfl
theorem held_small {ks : List Kind} (hk : checkErr ks = 0) {l : List Comp} (h : heldOf ks l = true) : l.length ≤ 16 ∧ ∀ c ∈ l, c.vals.length ≤ 8 := by
  obtain ⟨hs, hm⟩ := held_iff.1 h
  obtain ⟨h16, ho⟩ := checkErr_one hk
  refine ⟨Nat.le_trans (nodup_le Comp.kind _ _ (hs.imp fun h => by omega) fun c hc => ⟨(hm c hc).1, (hm c hc).2.1⟩) h16, fun c hc => ?_⟩
  obtain ⟨_, _, k, hk2, hh⟩ := hm c hc
  have h8 := (oneErr_zero (ho k (List.mem_of_getElem? hk2))).2.1
  have := fitOf_holds (k := k) (v := c.vals) (by rw [holds_fit hh])
  omega
/-- Valid worlds are small. -/
theorem WdOK.wl {w : Wd} (h : WdOK w) : WdL w := by
  obtain ⟨h16, ho⟩ := checkErr_one h.ks
  refine ⟨⟨by omega, fun k hk => by have := (oneErr_zero (ho k hk)).2.1; omega⟩, by have := h.gl; omega, by have := h.gl; have := h.il; omega, fun it hit => ?_⟩
  obtain ⟨h1, h2⟩ := held_small h.ks (h.it it hit).2.2.2.2
  exact ⟨by omega, fun c hc => by have := h2 c hc; omega⟩
theorem genKinds_pos (l : List Int) : 0 < (genKinds l).1.length := by
  have h := nextV_range l (n := 4) (by decide)
  have : ∀ i c q, (genKindsFrom i c q).1.length = c := by
    intro i c
    induction c generalizing i with
    | zero => intro q; rfl
    | succ c ih => intro q; simp only [genKindsFrom, List.length_cons, ih]
  unfold genKinds
  rw [this]
  omega
/- Places. -/
theorem tw_len {α : Type} {p : α → Bool} : ∀ {l : List α} {i : Nat}, i ≤ l.length → (∀ (j : Nat) (x : α), j < i → l[j]? = some x → p x = true) → (∀ x, l[i]? = some x → p x = false) → (l.takeWhile p).length = i
  | [], i, h, _, _ => by have : i = 0 := by simpa using h
                         subst this; rfl
  | x :: l, 0, _, _, h2 => by rw [List.takeWhile_cons, h2 x rfl]; rfl
  | x :: l, i + 1, h, h1, h2 => by
    rw [List.takeWhile_cons, h1 0 x (by omega) rfl]
    show (l.takeWhile p).length + 1 = i + 1
    rw [tw_len (i := i) (by simpa using h) (fun j y hj hy => h1 (j + 1) y (by omega) hy) (fun y hy => h2 y hy)]
/-- The place of an item with the slot n. -/
def itemAt (l : List Item) (n : Int) : Nat := (l.takeWhile fun x => decide (x.ent.n < n)).length
theorem found_atI {l : List Item} (hs : SortI l) {n : Int} {b : Nat × Bool} (h : Found (fun x : Item => cmpI x.ent.n n) l b) : b.1 = itemAt l n := by
  have hm : MonoL (fun x : Item => cmpI x.ent.n n) l := by
    intro a b x y hab hx hy hy0
    rw [cmpI_lt] at hy0 ⊢
    by_cases e : a = b
    · subst e; rw [hx] at hy; cases hy; exact hy0
    · obtain ⟨ha, rfl⟩ := List.getElem?_eq_some_iff.1 hx
      obtain ⟨hb, rfl⟩ := List.getElem?_eq_some_iff.1 hy
      have : (l[a]).ent.n < (l[b]).ent.n := List.pairwise_iff_getElem.1 hs a b ha hb (by omega)
      omega
  obtain ⟨m1, m2⟩ := h.mono hm
  exact (tw_len h.le (fun j x hj hx => by have := m1 j x hj hx; rw [cmpI_lt] at this; simpa using this) (fun x hx => by have := m2 b.1 x (Nat.le_refl _) hx; rw [cmpI_lt] at this; simpa using this)).symm
theorem insI_at {it : Item} : ∀ {l : List Item}, insI l it = l.take (itemAt l it.ent.n) ++ it :: l.drop (itemAt l it.ent.n)
  | [] => rfl
  | x :: l => by
    have ea : itemAt (x :: l) it.ent.n = if x.ent.n < it.ent.n then itemAt l it.ent.n + 1 else 0 := by
      unfold itemAt; rw [List.takeWhile_cons]; by_cases e : x.ent.n < it.ent.n <;> simp [e]
    rw [insI, ea]
    split
    · rw [insI_at]; rfl
    · rfl
end Go.Proofs.Ytanokoededdceaa

namespace Go.Proofs.Ytanokoededdceaa
set_option linter.unusedVariables false
set_option maxHeartbeats 1000000 in
theorem insertT_sp (X V n i : Nat) (l : List AV) (e : AV) (hn : n = l.length) (hi : i ≤ n) (hb : (n + 1) * 40 ≤ 140737488355328) (hfr : FreeL l) (hfe : FreeE e) (hw : ∀ x ∈ l, x.width = 3) (hwe : e.width = 3) (hze : AV.frzs [e] = [e]) :
    Spec Try.prog 44 [.sl X 0 n, iA i, .sl V 0 1] [(X, .row 34 3 l), (V, .row 34 3 [e])] fun r S' => r = .lst true 34 3 (l.take i ++ e :: l.drop i) ∧ S' = [] := by
  refine Spec.of (nt := 95) (res := [.tmp 6]) Try.func44 rfl (by kernel_rfl) rfl rfl rfl fun Sf => ?_
  have hfV : FreeL [e] := fun x hx => by rw [List.mem_singleton.1 hx]; exact hfe
  have hwV : ∀ x ∈ [e], x.width = 3 := fun x hx => by rw [List.mem_singleton.1 hx]; exact hwe
  (repeat refine WF ?_); refine AWP.region ?_; (repeat (first | refine WO ?_ | refine All.i fun X => ?_ | refine AllY.i fun Y => ?_)); refine AOps.nil ?_; (repeat refine WN ?_)
  (repeat refine WF ?_); refine AWP.region ?_; (repeat (first | (refine AOps.gN ?_; first | refine AOps.p (W.slice_lo rfl rfl (by exact At.f) rfl (by omega)) rfl ?_) | refine WO ?_ | refine All.i fun X => ?_ | refine AllY.i fun Y => ?_)); refine AOps.nil ?_; (repeat refine WN ?_)
  (repeat refine WF ?_); refine AWP.region ?_; (repeat (first | refine WO ?_ | refine All.i fun X => ?_ | refine AllY.i fun Y => ?_)); refine AOps.nil ?_; (repeat refine WN ?_)
  (repeat refine WF ?_); refine AWP.region ?_; (repeat (first | refine WO ?_ | refine All.i fun X => ?_ | refine AllY.i fun Y => ?_)); refine AOps.nil ?_; (repeat refine WN ?_)
  refine AWP.cond_f rfl rfl ?_
  (repeat refine WF ?_); refine AWP.region ?_; (repeat (first | refine WO ?_ | refine All.i fun X => ?_ | refine AllY.i fun Y => ?_)); refine AOps.nil ?_; (repeat refine WN ?_)
  (repeat refine WF ?_); refine AWP.region ?_; (repeat (first | refine WO ?_ | refine All.i fun X => ?_ | refine AllY.i fun Y => ?_)); refine AOps.nil ?_; (repeat refine WN ?_)
  by_cases hin : i = n
  · refine AWP.cond_t rfl (decide_eq_true (by omega)) ?_
    refine AWP.iceL 2 [e] hze ?_
    have hbb : (n + [e].length) * 40 ≤ 140737488355328 := hb
    (repeat (first | refine WK ?_ | refine All.i fun X => ?_ | refine AllY.i fun Y => ?_))
    (refine AWP.ret ?_; (repeat (first | refine inB_r ?_ | refine andThen_r ?_)); refine retQ_r ?_)
    have hm : n + [e].length = (l ++ [e]).length := by rw [List.length_append, hn]
    have hr : l ++ [e] = l.take i ++ e :: l.drop i := by rw [hin, hn, List.take_length, List.drop_length]
    rw [← hr]
    exact ⟨[.sl Y 0 (n + [e].length)], [.lst true 34 3 (l ++ [e])], _, [], .cons (.tmp rfl) rfl .nil, .cons (.cell (.sl (p := 0) .here hm)) .nil, by exact Sub.f, rfl, rfl⟩
  · refine AWP.cond_f rfl (decide_eq_false (by omega)) ?_
    refine AWP.cap X fun Z c u0 hc hnc => ?_
    (repeat refine WF ?_); refine AWP.region ?_; (repeat (first | (refine AOps.gN ?_; first | refine AOps.p (W.cap hc rfl (by exact At.f) (by exact At.f)) rfl ?_) | refine WO ?_ | refine All.i fun X => ?_ | refine AllY.i fun Y => ?_)); refine AOps.nil ?_; (repeat refine WN ?_)
    refine AWP.cond rfl (fun hg => ?_) (fun hg => ?_)
    · have hcn : c < n + 1 := by rw [decide_eq_true_eq] at hg; omega
      refine AWP.rs fun Y => ?_
      (repeat refine WF ?_); refine AWP.region ?_; (repeat (first | (refine AOps.gN ?_; first | refine AOps.p (W.hi (a := i) rfl rfl (by exact At.f) rfl hi) rfl ?_ | refine AOps.p (W.subE ((n + 1 - i : Nat) : Int) (by omega) (by omega) rfl rfl) rfl ?_ | refine AOps.s (W.appzG (n + 1 - i) hc rfl rfl (by exact At.f) (by exact At.f) (by exact At.f) rfl (by exact .inl rfl) (by rfl) (by kernel_rfl) (by omega) (by omega) (by decide) (by omega) (by omega) hfr) rfl ?_) | refine WO ?_ | refine All.i fun X => ?_ | refine AllY.i fun Y => ?_))
      have hsum : i + (n + 1 - i) = n + 1 := by omega
      obtain ⟨l1, hl1⟩ : ∃ l1, l.take i ++ List.replicate (n + 1 - i) (zAV [.int .i64 0, .int .i64 0, .slice none 0 0] true) = l1 := ⟨_, rfl⟩
      have hti : (l.take i).length = i := by rw [List.length_take]; omega
      have hl1n : l1.length = n + 1 := by rw [← hl1, List.length_append, hti, List.length_replicate, hsum]
      have hfr1 : FreeL l1 := fun x hx => by
        rw [← hl1] at hx
        rcases List.mem_append.1 hx with hx | hx
        · exact hfr x (List.mem_of_mem_take hx)
        · rw [List.eq_of_mem_replicate hx]
          exact FreeE.agg (us := [.prim (.int .i64 0), .prim (.int .i64 0), .prim (.slice none 0 0)]) fun y hy => by
            simp only [List.mem_cons, List.not_mem_nil, or_false] at hy
            rcases hy with rfl | rfl | rfl <;> exact FreeE.prim _
      have htk : l1.take i = l.take i := by rw [← hl1, List.take_left' hti]
      rw [hl1, hsum]
      (repeat first | refine AOps.nil ?_ | refine WF ?_)
      (repeat refine WF ?_); refine AWP.region ?_; (repeat (first | (refine AOps.gN ?_; first | refine AOps.p (W.slice_lo rfl rfl (by exact At.f) rfl (by omega)) rfl ?_ | refine AOps.s (W.copyO 1 rfl rfl (by exact At.f) (by exact At.f) (by rfl) (by omega) (by omega) (by omega) (by omega) (by exact Nat.le_refl _) hfr1 hfV hwV) rfl ?_) | refine WO ?_ | refine All.i fun X => ?_ | refine AllY.i fun Y => ?_))
      obtain ⟨l2, hl2⟩ : ∃ l2, l1.take (0 + i) ++ ([e].drop 0).take 1 ++ l1.drop (0 + i + 1) = l2 := ⟨_, rfl⟩
      rw [hl2]
      have hl2n : l2.length = n + 1 := by rw [← hl2]; simp only [List.length_append, List.length_take, List.length_drop, List.length_singleton]; omega
      have hfr2 : FreeL l2 := fun x hx => by
        rw [← hl2] at hx
        rcases List.mem_append.1 hx with hx | hx
        · rcases List.mem_append.1 hx with hx | hx
          · exact hfr1 x (List.mem_of_mem_take hx)
          · exact hfV x (List.mem_of_mem_drop (List.mem_of_mem_take hx))
        · exact hfr1 x (List.mem_of_mem_drop hx)
      have htk2 : l2.take (0 + (i + 1)) = l.take i ++ [e] := by
        rw [← hl2, Nat.zero_add, Nat.zero_add, htk]
        exact List.take_left' (by simp [hti])
      (repeat first | refine AOps.nil ?_ | refine WF ?_)
      (repeat refine WF ?_); refine AWP.region_run (by kernel_rfl) (by kernel_rfl) ?_; (repeat (first | (refine RGo.gN ?_; first | refine RGo.go (h := W.addE ((i + 1 : Nat) : Int) (by omega) (by omega) rfl rfl) (k := ?_) | refine RGo.go (h := W.slice_lo rfl rfl (by exact At.f) rfl (by omega)) (k := ?_) | refine RGo.goS (h := W.copyO (n - i) rfl rfl (by exact At.f) (by exact At.f) (by rfl) (by omega) (by omega) (by omega) (by omega) (by omega) hfr2 hfr hw) (k := ?_)) | (refine RGo.gQ ?_; first | refine RGo.go (h := W.addE ((i + 1 : Nat) : Int) (by omega) (by omega) rfl rfl) (k := ?_) | refine RGo.go (h := W.slice_lo rfl rfl (by exact At.f) rfl (by omega)) (k := ?_) | refine RGo.goS (h := W.copyO (n - i) rfl rfl (by exact At.f) (by exact At.f) (by rfl) (by omega) (by omega) (by omega) (by omega) (by omega) hfr2 hfr hw) (k := ?_)) | refine RK ?_ | refine RGo.nil (by kernel_rfl) ?_))
      obtain ⟨l3, hl3⟩ : ∃ l3, l2.take (0 + (i + 1)) ++ (l.drop (0 + i)).take (n - i) ++ l2.drop (0 + (i + 1) + (n - i)) = l3 := ⟨_, rfl⟩
      rw [hl3]
      have hr : l3 = l.take i ++ e :: l.drop i := by
        have e1 : l2.drop (0 + (i + 1) + (n - i)) = [] := List.drop_of_length_le (by omega)
        have e2 : (l.drop (0 + i)).take (n - i) = l.drop i := by rw [Nat.zero_add]; exact List.take_of_length_le (by rw [List.length_drop]; omega)
        rw [← hl3, htk2, e1, e2, List.append_nil, List.append_assoc]; rfl
      have hm : n + 1 = l3.length := by
        rw [hr]; simp only [List.length_append, List.length_cons, List.length_drop, hti]; omega
      (repeat (first | refine WK ?_ | refine All.i fun X => ?_ | refine AllY.i fun Y => ?_))
      (refine AWP.ret ?_; (repeat (first | refine inB_r ?_ | refine andThen_r ?_)); refine retQ_r ?_)
      rw [← hr]
      exact ⟨[.sl Y 0 (n + 1)], [.lst true 34 3 l3], _, [], .cons (.tmp rfl) rfl .nil, .cons (.cell (.sl (p := 0) .here hm)) .nil, by exact Sub.f, rfl, rfl⟩
    · have hcn : n + 1 ≤ c := by rw [decide_eq_false_iff_not] at hg; omega
      (repeat refine WF ?_); refine AWP.region ?_; (repeat (first | (refine AOps.gN ?_; first | refine AOps.p (W.sliceC (n + 1) hc rfl rfl (by exact At.f) (by exact At.f) (by omega) hcn) rfl ?_) | refine WO ?_ | refine All.i fun X => ?_ | refine AllY.i fun Y => ?_)); refine AOps.nil ?_; (repeat refine WN ?_)
      (repeat refine WF ?_); refine AWP.region ?_; (repeat (first | (refine AOps.gN ?_; first | refine AOps.p (W.addE ((i + 1 : Nat) : Int) (by omega) (by omega) rfl rfl) rfl ?_ | refine AOps.p (W.slice_lo rfl rfl (by exact At.f) rfl (by omega)) rfl ?_) | refine WO ?_ | refine All.i fun X => ?_ | refine AllY.i fun Y => ?_))
      refine AOps.p (W.over (t := 25) (tR := 4) Try.func63 (by kernel_rfl) (by kernel_rfl) (by kernel_rfl) (by kernel_rfl) rfl rfl (by exact At.f) (by exact At.f) (by rfl) (by decide) (by omega) (by omega)) rfl ?_
      (repeat (first | refine WO ?_ | refine All.i fun X => ?_ | refine AllY.i fun Y => ?_))
      (repeat first | refine AOps.nil ?_ | refine WF ?_)
      refine AWP.cond_t rfl rfl ?_
      (repeat refine WF ?_); refine AWP.region_run (by kernel_rfl) (by kernel_rfl) ?_; (repeat (first | (refine RGo.gN ?_; first | refine RGo.go (h := W.addE ((i + 1 : Nat) : Int) (by omega) (by omega) rfl rfl) (k := ?_) | refine RGo.go (h := W.slice_lo rfl rfl (by exact At.f) rfl (by omega)) (k := ?_) | refine RGo.goS (h := W.copyS (n - i) rfl rfl (by exact At.f) (by omega) (by omega) (by omega) (by omega) (by omega) hfr hw) (k := ?_)) | (refine RGo.gQ ?_; first | refine RGo.go (h := W.addE ((i + 1 : Nat) : Int) (by omega) (by omega) rfl rfl) (k := ?_) | refine RGo.go (h := W.slice_lo rfl rfl (by exact At.f) rfl (by omega)) (k := ?_) | refine RGo.goS (h := W.copyS (n - i) rfl rfl (by exact At.f) (by omega) (by omega) (by omega) (by omega) (by omega) hfr hw) (k := ?_)) | refine RK ?_ | refine RGo.nil (by kernel_rfl) ?_))
      have hti : (l.take i).length = i := by rw [List.length_take]; omega
      obtain ⟨l1, hl1⟩ : ∃ l1, l.take (0 + (i + 1)) ++ (l.drop (0 + i)).take (n - i) ++ l.drop (0 + (i + 1) + (n - i)) = l1 := ⟨_, rfl⟩
      rw [hl1]
      have hti1 : (l.take (i + 1)).length = i + 1 := by rw [List.length_take]; omega
      have hl1e : l1 = l.take (i + 1) ++ l.drop i := by
        have e1 : l.drop (0 + (i + 1) + (n - i)) = [] := List.drop_of_length_le (by omega)
        have e2 : (l.drop (0 + i)).take (n - i) = l.drop i := by rw [Nat.zero_add]; exact List.take_of_length_le (by rw [List.length_drop]; omega)
        rw [← hl1, e1, e2, List.append_nil, Nat.zero_add]
      have hfr1 : FreeL l1 := fun x hx => by
        rw [hl1e] at hx
        rcases List.mem_append.1 hx with hx | hx
        · exact hfr x (List.mem_of_mem_take hx)
        · exact hfr x (List.mem_of_mem_drop hx)
      have hl1n : l1.length = n + 1 := by rw [hl1e, List.length_append, hti1, List.length_drop]; omega
      have htk : l1.take i = l.take i := by rw [hl1e, List.take_append_of_le_length (by omega), List.take_take, Nat.min_eq_left (by omega)]
      have hdr : l1.drop (i + 1) = l.drop i := by rw [hl1e, List.drop_left' hti1]
      (repeat refine WF ?_); refine AWP.region ?_; (repeat (first | (refine AOps.gN ?_; first | refine AOps.p (W.slice_lo rfl rfl (by exact At.f) rfl (by omega)) rfl ?_ | refine AOps.s (W.copyO 1 rfl rfl (by exact At.f) (by exact At.f) (by rfl) (by omega) (by omega) (by omega) (by omega) (by exact Nat.le_refl _) hfr1 hfV hwV) rfl ?_) | refine WO ?_ | refine All.i fun X => ?_ | refine AllY.i fun Y => ?_))
      obtain ⟨l2, hl2⟩ : ∃ l2, l1.take (0 + i) ++ ([e].drop 0).take 1 ++ l1.drop (0 + i + 1) = l2 := ⟨_, rfl⟩
      rw [hl2]
      have hr : l2 = l.take i ++ e :: l.drop i := by
        rw [← hl2, Nat.zero_add, htk, hdr, List.append_assoc]; rfl
      have hm : n + 1 = l2.length := by
        rw [hr]; simp only [List.length_append, List.length_cons, List.length_drop, hti]; omega
      (repeat first | refine AOps.nil ?_ | refine WF ?_)
      (repeat (first | refine WK ?_ | refine All.i fun X => ?_ | refine AllY.i fun Y => ?_))
      (refine AWP.ret ?_; (repeat (first | refine inB_r ?_ | refine andThen_r ?_)); refine retQ_r ?_)
      rw [← hr]
      exact ⟨[.sl X 0 (n + 1)], [.lst true 34 3 l2], _, [], .cons (.tmp rfl) rfl .nil, .cons (.cell (.sl (p := 1) (.next .here) hm)) .nil, by exact Sub.f, rfl, rfl⟩
end Go.Proofs.Ytanokoededdceaa

namespace Go.Proofs.Ytanokoededdceaa
set_option linter.unusedVariables false
theorem searchKT_sp (l : List Item) (t : AV) (f : FuncId) (cap : List AV) (g : Item → Int) (t0 : Int) (ht : t = iA t0) (hs : st1s cap = true) (hl : l.length ≤ 4611686018427387904) (hf : ∀ x ∈ l, PS Try.prog f (itemA false x :: t :: cap) (iA (g x))) :
    Spec Try.prog 41 [itemsA false false l, t, .fn f cap] [] fun r S' => ∃ b, Found g l b ∧ r = .tup [iA b.1, bA b.2] ∧ S' = [] := by
  subst ht
  refine Spec.of (nt := 49) (res := [.tmp 6, .tmp 7]) Try.func41 rfl (by kernel_rfl) rfl rfl rfl fun Sf => ?_
  have hlm : (l.map (itemA false)).length = l.length := List.length_map _
  (repeat (first | refine WK ?_ | refine All.i fun X => ?_ | refine AllY.i fun Y => ?_))
  refine AWP.lp2 (fun (i j : Nat) => ⟨[(0, itemsA false false l), (1, iA t0), (2, .fn f cap), (8, iA (l.map (itemA false)).length), (9, iA i), (10, iA j)], Sf⟩) (fun i j => i ≤ j ∧ j ≤ l.length ∧ (MonoL g l → Spl g l i j)) (fun i j => j - i) 0 (l.map (itemA false)).length ⟨Nat.zero_le _, by omega, fun _ => ⟨fun k x h => absurd h (by omega), fun k x h hx => by have := (List.getElem?_eq_some_iff.1 hx).1; omega⟩⟩ ?_
  rintro i j ⟨hij, hjn, hmono⟩
  (repeat (first | refine WK ?_ | refine All.i fun X => ?_ | refine AllY.i fun Y => ?_))
  refine AWP.cond rfl (fun hc => ?_) (fun hc => ?_)
  · have h : i < j := by rw [decide_eq_true_eq] at hc; omega
    have hmid : ((i : Int) + j).fdiv (2 ^ 1) = (((i + j) / 2 : Nat) : Int) := by
      rw [Int.fdiv_eq_ediv_of_nonneg _ (by decide)]; omega
    have hw1 : IntKind.u64.wrap ((i : Int) + j) = i + j := by rw [IntKind.wrap_u64]; omega
    have hw2 : IntKind.i64.wrap (((i : Int) + j).fdiv (2 ^ 1)) = ((i : Int) + j).fdiv (2 ^ 1) := by
      rw [IntKind.wrap_i64, hmid]; omega
    (repeat refine WF ?_); refine AWP.region ?_; (repeat (first | (refine AOps.gN ?_; first | refine AOps.p (W.conv .i64 .u64 (by kernel_rfl) (by kernel_rfl) rfl hw1) rfl ?_ | refine AOps.p (W.shr 1 rfl rfl rfl (by decide)) rfl ?_ | refine AOps.p (W.conv .u64 .i64 (by kernel_rfl) (by kernel_rfl) rfl hw2) rfl ?_) | refine WO ?_ | refine All.i fun X => ?_ | refine AllY.i fun Y => ?_)); refine AOps.nil ?_; (repeat refine WN ?_)
    rw [hmid]
    obtain ⟨m, hm⟩ : ∃ m, (i + j) / 2 = m := ⟨_, rfl⟩
    rw [hm]
    have hml : m < l.length := by omega
    obtain ⟨y, hy⟩ : ∃ y, l[m] = y := ⟨_, rfl⟩
    have hya : l[m]? = some y := by rw [List.getElem?_eq_getElem hml, hy]
    have hat : (l.map (itemA false))[m]? = some (itemA false y) := by rw [List.getElem?_map, hya]; rfl
    have hfy := hf y (by rw [← hy]; exact List.getElem_mem hml)
    (repeat refine WF ?_); refine AWP.region ?_; (repeat (first | (refine AOps.gN ?_; first | (refine AOps.g_callv ?_; first | refine AOps.k2 (h := (hfy ..)) (k := ?_))) | refine WO ?_ | refine All.i fun X => ?_ | refine AllY.i fun Y => ?_)); refine AOps.nil ?_; (repeat refine WN ?_)
    refine AWP.cond rfl (fun he => ?_) (fun he => ?_)
    · have he : g y < 0 := by simpa using he
      (repeat (first | refine WK ?_ | refine All.i fun X => ?_ | refine AllY.i fun Y => ?_))
      refine lp_next2 (m + 1) j ⟨by omega, hjn, fun hM => (hmono hM).lo hM hya he⟩
    · have he : ¬ g y < 0 := by simpa using he
      (repeat (first | refine WK ?_ | refine All.i fun X => ?_ | refine AllY.i fun Y => ?_))
      refine lp_next2 i m ⟨by omega, by omega, fun hM => (hmono hM).hi hM hya he⟩
  · have h : i = j := by rw [decide_eq_false_iff_not] at hc; omega
    subst h
    by_cases hin : i < l.length
    · have hil : i < l.length := by omega
      have g1 : decide ((i : Int) < (l.map (itemA false)).length) = true := decide_eq_true (by omega)
      obtain ⟨y, hy⟩ : ∃ y, l[i] = y := ⟨_, rfl⟩
      have hya : l[i]? = some y := by rw [List.getElem?_eq_getElem hil, hy]
      have hat : (l.map (itemA false))[i]? = some (itemA false y) := by rw [List.getElem?_map, hya]; rfl
      have hfy := hf y (by rw [← hy]; exact List.getElem_mem hil)
      (repeat (first | (refine AOps.gN ?_; first | (refine AOps.g_callv ?_; first | refine AOps.k2 (h := (hfy ..)) (k := ?_))) | refine WK ?_ | refine All.i fun X => ?_ | refine AllY.i fun Y => ?_))
      (refine AWP.ret ?_; (repeat (first | refine inB_r ?_ | refine andThen_r ?_)); refine retQ_r ?_)
      exact ⟨[iA i, bA (decide (g y = 0))], [iA i, bA (decide (g y = 0))], _, [], .cons (.tmp rfl) rfl (.cons (.tmp rfl) rfl .nil), .cons (.cell .same) (.cons (.cell .same) .nil), by exact Sub.f, (i, decide (g y = 0)), ⟨by simp; omega, by simp [hya], hmono⟩, rfl, rfl⟩
    · have g1 : decide ((i : Int) < (l.map (itemA false)).length) = false := decide_eq_false (by omega)
      (repeat (first | refine WK ?_ | refine All.i fun X => ?_ | refine AllY.i fun Y => ?_))
      (refine AWP.ret ?_; (repeat (first | refine inB_r ?_ | refine andThen_r ?_)); refine retQ_r ?_)
      exact ⟨[iA i, bA false], [iA i, bA false], _, [], .cons (.tmp rfl) rfl (.cons (.tmp rfl) rfl .nil), .cons (.cell .same) (.cons (.cell .same) .nil), by exact Sub.f, (i, false), ⟨by simp; omega, by simp [List.getElem?_eq_none (show l.length ≤ i by omega)], hmono⟩, rfl, rfl⟩
end Go.Proofs.Ytanokoededdceaa

namespace Go.Proofs.Ytanokoededdceaa
set_option linter.unusedVariables false
theorem spawn1_ps (x : Item) (k : Int) : PS Try.prog 42 [itemA false x, iA k] (iA (cmpI x.ent.n k)) := by
  refine Spec.of (nt := 10) (res := [.tmp 4]) Try.func42 rfl (by kernel_rfl) rfl rfl rfl fun Sf => ?_
  (repeat (first | (refine AOps.gN ?_; first | (refine AOps.g_callf ?_; first | refine AOps.c2 (h := (compare_ps x.ent.n k)) (k := ?_)) | (refine AOps.g_box ?_; refine AOps.goB ?_)) | refine WK ?_ | refine All.i fun X => ?_ | refine AllY.i fun Y => ?_))
  (refine AWP.ret ?_; (repeat (first | refine inB_r ?_ | refine andThen_r ?_)); refine retQ_r ?_); refine Ends.ps ?_
  rfl
/-- A world with gens and items that are its own. -/
def wdS (w : Wd) : AV := .agg [kindsA false false w.kinds, intsA true w.gens, itemsA true false w.items]
instance {w : Wd} : Frz (wdS w) (wdA false w) := ⟨by unfold wdS wdA; exact Frz.h⟩
set_option maxHeartbeats 1000000 in
theorem spawn_ps (w : Wd) (l : List Comp) (hw : WdL w) (h12 : w.kinds.length ≤ 12) (hl : l.length ≤ 1099511627776) : PS Try.prog 20 [wdA false w, compsA false false l] (.tup [wdS (spawnOf w l).1, entA (spawnOf w l).2.1, iA (spawnOf w l).2.2]) := by
  have hck := check_ps' w hw.gens hw.items.1 (fun it hit => (hw.items.2 it hit).1)
  have hft := wfit_ps w.kinds l h12 hl
  have hfr := free_ps w hw.gens hw.items.1
  have hcp := copy_ps w hw
  obtain ⟨r, hr⟩ : ∃ r, spawnOf w l = r := ⟨_, rfl⟩
  rw [hr]
  unfold spawnOf at hr
  obtain ⟨we, hwe⟩ : ∃ we, wdErr w = we := ⟨_, rfl⟩
  rw [hwe] at hck hr
  refine Spec.of (nt := 80) (res := [.cell 4 27, .cell 5 31, .tmp 6]) Try.func20 rfl (by kernel_rfl) rfl rfl rfl fun Sf => ?_
  (repeat refine WF ?_)
  refine AWP.region ?_
  refine AOps.goF fun P => ?_
  refine AOps.goF fun R => ?_
  refine AOps.goF fun Q => ?_
  (repeat (first | refine WO ?_ | refine All.i fun X => ?_ | refine AllY.i fun Y => ?_))
  (repeat first | refine AOps.nil ?_ | refine WF ?_)
  (repeat (first | (refine AOps.gN ?_; first | (refine AOps.g_callf ?_; first | refine AOps.c1 (h := (hck ..)) (k := ?_))) | refine WK ?_ | refine All.i fun X => ?_ | refine AllY.i fun Y => ?_))
  by_cases hd : we ≠ 0
  · rw [if_pos hd] at hr
    subst hr
    refine AWP.cond_t rfl (decide_eq_true hd) ?_
    (repeat (first | refine WK ?_ | refine All.i fun X => ?_ | refine AllY.i fun Y => ?_))
    (refine AWP.ret ?_; (repeat (first | refine inB_r ?_ | refine andThen_r ?_)); refine retQ_r ?_)
    exact Ends.cv [.agg [.prim (.slice none 0 0), .prim (.slice none 0 0), .prim (.slice none 0 0)], entA ⟨0, 0⟩, iA we] [wdS wdE, entA ⟨0, 0⟩, iA we] (.cons (.agg (.cons .nil (.cons .nil (.cons .nil .nil)))) (.cons (.agg (.cons .same (.cons .same .nil))) (.cons (.cell .same) .nil)))
  rw [if_neg hd] at hr
  refine AWP.cond_f rfl (decide_eq_false hd) ?_
  (repeat (first | (refine AOps.gN ?_; first | (refine AOps.g_callf ?_; first | refine AOps.c2 (h := (hft ..)) (k := ?_))) | refine WK ?_ | refine All.i fun X => ?_ | refine AllY.i fun Y => ?_))
  by_cases hf : (wFit w.kinds l).2 ≠ 0
  · rw [if_pos hf] at hr
    subst hr
    refine AWP.cond_t rfl (decide_eq_true hf) ?_
    (repeat (first | refine WK ?_ | refine All.i fun X => ?_ | refine AllY.i fun Y => ?_))
    (refine AWP.ret ?_; (repeat (first | refine inB_r ?_ | refine andThen_r ?_)); refine retQ_r ?_)
    exact Ends.cv [.agg [.prim (.slice none 0 0), .prim (.slice none 0 0), .prim (.slice none 0 0)], entA ⟨0, 0⟩, iA _] [wdS wdE, entA ⟨0, 0⟩, iA _] (.cons (.agg (.cons .nil (.cons .nil (.cons .nil .nil)))) (.cons (.agg (.cons .same (.cons .same .nil))) (.cons (.cell .same) .nil)))
  rw [if_neg hf] at hr
  obtain ⟨cs, hcs⟩ : ∃ cs, (wFit w.kinds l).1 = cs := ⟨_, rfl⟩
  rw [hcs] at hr
  refine AWP.cond_f rfl (decide_eq_false hf) ?_
  (repeat (first | (refine AOps.gN ?_; first | (refine AOps.g_callf ?_; first | refine AOps.c1 (h := (hfr ..)) (k := ?_))) | refine WK ?_ | refine All.i fun X => ?_ | refine AllY.i fun Y => ?_))
  have hok := (wdErr_iff w).1 (hwe.trans (by simpa using hd))
  by_cases hb : (freeOf w).2 = false
  · rw [if_pos hb] at hr
    subst hr
    refine AWP.cond_t rfl (by rw [hb]; rfl) ?_
    (repeat (first | refine WK ?_ | refine All.i fun X => ?_ | refine AllY.i fun Y => ?_))
    (refine AWP.ret ?_; (repeat (first | refine inB_r ?_ | refine andThen_r ?_)); refine retQ_r ?_)
    exact Ends.cv [.agg [.prim (.slice none 0 0), .prim (.slice none 0 0), .prim (.slice none 0 0)], entA ⟨0, 0⟩, iA 6] [wdS wdE, entA ⟨0, 0⟩, iA 6] (.cons (.agg (.cons .nil (.cons .nil (.cons .nil .nil)))) (.cons (.agg (.cons .same (.cons .same .nil))) (.cons (.cell .same) .nil)))
  rw [if_neg hb] at hr
  have hb : (freeOf w).2 = true := by simpa using hb
  obtain ⟨f1, f2, f3, f4⟩ := free_facts hok hb
  refine AWP.cond_f rfl (by rw [hb]; rfl) ?_
  obtain ⟨n, hn⟩ : ∃ n, (freeOf w).1 = n := ⟨_, rfl⟩
  rw [hn] at hr f1 f2 f3 f4 ⊢
  obtain ⟨g1, g2, g3, g4, g5, g6⟩ := growG_at f1
  refine AWP.rs fun I => AWP.rs fun G => ?_
  (repeat refine WF ?_); refine AWP.region ?_; (repeat (first | (refine AOps.gN ?_; first | (refine AOps.g_callf ?_; first | refine AOps.z1 (h := hcp) (hT := .v (.agg (.cons .fz (.cons (.lst (Y := G) rfl) (.cons (.lst (Y := I) rfl) .nil))))) (k := ?_))) | refine WO ?_ | refine All.i fun X => ?_ | refine AllY.i fun Y => ?_)); refine AOps.nil ?_; (repeat refine WN ?_)
  have hgm : (w.gens.map iA).length = w.gens.length := List.length_map _
  have him : (w.items.map itemB).length = w.items.length := List.length_map _
  have hgl := hok.gl
  have hil := hw.items.1
  (repeat refine WF ?_); refine AWP.region ?_; (repeat (first | refine WO ?_ | refine All.i fun X => ?_ | refine AllY.i fun Y => ?_)); refine AOps.nil ?_; (repeat refine WN ?_)
  refine AWP.joinS (fun b : Nat × Nat × List AV => b.2.1 = b.2.2.length ∧ b.2.2 = (growG w.gens n).map iA) (fun b => ⟨[(2, .ptr P 0 0), (4, .ptr R 0 0), (5, .ptr Q 0 0), (8, compsA false false (wFit w.kinds l).1), (10, iA n)], (b.1, .row 3 1 b.2.2) :: (I, .row 34 3 (w.items.map itemB)) :: (Q, .row 31 2 [entA ⟨0, 0⟩]) :: (R, .row 27 3 [.agg [.prim (.slice none 0 0), .prim (.slice none 0 0), .prim (.slice none 0 0)]]) :: (P, .row 27 3 [.agg [kindsA false false w.kinds, .sl b.1 0 b.2.1, .sl I 0 (w.items.map itemB).length]]) :: Sf⟩) ?_ ?_
  · by_cases hc : n = w.gens.length
    · refine AWP.cond_t rfl (decide_eq_true (by omega)) ?_
      have hb1 : (w.gens.map iA).length + 1 ≤ 1099511627776 := by omega
      (repeat (first | (refine AOps.gN ?_; first | (refine AOps.g_lit ?_; refine AOps.goL (iA 0) ?_)) | refine WK ?_ | refine All.i fun X => ?_ | refine AllY.i fun Y => ?_))
      exact jn (Y, (w.gens.map iA).length + 1, w.gens.map iA ++ [iA 0]) ⟨by simp, by unfold growG; rw [if_pos hc, List.map_append]; rfl⟩
    · refine AWP.cond_f rfl (decide_eq_false (by omega)) ?_
      (repeat (first | refine WK ?_ | refine All.i fun X => ?_ | refine AllY.i fun Y => ?_))
      exact jn (G, (w.gens.map iA).length, w.gens.map iA) ⟨rfl, by unfold growG; rw [if_neg hc]⟩
  · rintro ⟨G, m, L⟩ ⟨hm, hL⟩
    dsimp only at hm hL ⊢
    obtain ⟨gens, hgens⟩ : ∃ gens, growG w.gens n = gens := ⟨_, rfl⟩
    rw [hgens] at hL g1 g2 hr
    obtain ⟨g, hg⟩ : ∃ g, gens.getD n 0 = g := ⟨_, rfl⟩
    rw [hg] at g2 hr
    have hat : L[n]? = some (iA g) := by rw [hL, List.getElem?_map, g2]; rfl
    have hnm : n < m := by rw [hm, hL, List.length_map]; exact g1
    (repeat refine WF ?_); refine AWP.region ?_; (repeat (first | refine WO ?_ | refine All.i fun E => ?_ | refine AllY.i fun Y => ?_)); refine AOps.nil ?_; (repeat refine WN ?_)
    have hse := searchKT_sp w.items (iA n) 42 [] (fun x => cmpI x.ent.n n) n rfl rfl (by omega) (fun x _ => spawn1_ps x n)
    (repeat refine WF ?_); refine AWP.region ?_; (repeat (first | refine WO ?_ | refine All.i fun X => ?_ | refine AllY.i fun Y => ?_))
    refine AOps.be3 (h := hse) (l0 := Ld.row) (l1 := .frz) (l2 := .frz) (k := fun b hb => ?_)
    have hbi := found_atI hok.so hb
    have hbl := hb.le
    obtain ⟨bi, bb⟩ := b
    dsimp only at hbi hbl ⊢
    (repeat (first | refine WO ?_ | refine All.i fun X => ?_ | refine AllY.i fun Y => ?_))
    (repeat first | refine AOps.nil ?_ | refine WF ?_)
    refine AWP.frzRow I (w.items.map (itemA false)) (items_frzB w.items) ?_
    refine AWP.rs fun Y => AWP.rs fun K2 => ?_
    rw [hcs]
    have hin2 := (insertT_sp I K2 (w.items.map itemB).length bi (w.items.map (itemA false)) (itemA false ⟨⟨n, g⟩, cs⟩) (by simp) (by omega) (by omega) (items_free w.items) (item_free _) (items_wid w.items) rfl (by show [(itemA false ⟨⟨n, g⟩, cs⟩).frz] = _; rw [(inferInstance : Frz (itemA false ⟨⟨n, g⟩, cs⟩) (itemA false ⟨⟨n, g⟩, cs⟩)).h])).used2
    (repeat refine WF ?_); refine AWP.region ?_; (repeat (first | (refine AOps.gN ?_; first | (refine AOps.g_callf ?_; first | refine AOps.z3 (h := hin2) (hT := .ls (Y := Y)) (k := ?_)) | refine AOps.s (W.lit1 (X := K2) (l := [itemA false ⟨⟨n, g⟩, cs⟩]) (by exact rfl) (by exact At.f) (by exact rfl) (by exact .inl rfl) (by decide) (by decide) (by exact rfl)) rfl ?_) | refine WO ?_ | refine All.i fun X => ?_ | refine AllY.i fun Y => ?_)); refine AOps.nil ?_; (repeat refine WN ?_)
    (repeat refine WF ?_); refine AWP.region_run (by kernel_rfl) (by kernel_rfl) ?_; (repeat (first | refine RK ?_ | refine RGo.nil (by kernel_rfl) ?_))
    (refine AWP.ret ?_; (repeat (first | refine inB_r ?_ | refine andThen_r ?_)); refine retQ_r ?_)
    have hI : (w.items.map (itemA false)).take bi ++ itemA false ⟨⟨n, g⟩, cs⟩ :: (w.items.map (itemA false)).drop bi = (insI w.items ⟨⟨n, g⟩, cs⟩).map (itemA false) := by
      rw [insI_at, hbi, List.map_append, List.map_cons, List.map_take, List.map_drop]
    rw [hI]
    subst hr
    subst hL
    have hlI : ((insI w.items ⟨⟨n, g⟩, cs⟩).map (itemA false)).length = ((insI w.items ⟨⟨n, g⟩, cs⟩).map (itemA false)).length := rfl
    exact Ends.cv [.agg [kindsA false false w.kinds, .sl G 0 m, .sl Y 0 ((insI w.items ⟨⟨n, g⟩, cs⟩).map (itemA false)).length], entA ⟨n, g⟩, iA 0] [wdS ⟨w.kinds, gens, insI w.items ⟨⟨n, g⟩, cs⟩⟩, entA ⟨n, g⟩, iA 0] (.cons (.agg (.cons .same (.cons (.sl (p := 3) (by exact At.f) hm) (.cons (.sl (p := 1) (by exact At.f) rfl) .nil)))) (.cons (.agg (.cons .same (.cons .same .nil))) (.cons (.cell .same) .nil)))
end Go.Proofs.Ytanokoededdceaa

namespace Go.Proofs.Ytanokoededdceaa
set_option linter.unusedVariables false
def nameI (s : List UInt8) : List Int := (s.length : Int) :: s.map fun b => (b.toNat : Int)
abbrev outO (l : List Int) : AO := .row 22 1 [intsA true l]
theorem nameI_at {s : List UInt8} {i : Nat} (h : i < s.length) : (nameI s).take (i + 2) = (nameI s).take (i + 1) ++ [((s.getD i 0).toNat : Int)] := by
  have hn : i + 1 < (nameI s).length := by simp [nameI]; omega
  rw [List.take_succ_eq_append_getElem hn]
  congr 2
  simp [nameI, List.getD_eq_getElem?_getD, h]
theorem intsName_po (X : Nat) (l : List Int) (s : List UInt8) (hl : (l ++ nameI s).length * 8 ≤ 140737488351232) : PO Try.prog 65 [sA s, .ptr X 0 0] X (outO l) (.tup []) (outO (l ++ nameI s)) := by
  refine Spec.of (nt := 22) (res := []) Try.func65 rfl (by kernel_rfl) rfl rfl rfl fun Sf => ?_
  have hnl : (nameI s).length = s.length + 1 := by simp [nameI]
  rw [List.length_append, hnl] at hl
  refine AWP.thawIn .here (fun Y => .head .here) fun K => ?_
  have hb : ((l.map iA).length + [iA (s.length : Int)].length) * 8 ≤ 140737488355328 := by simp; omega
  (repeat (first | (refine AOps.gN ?_; first | (refine AOps.g_lit ?_; refine AOps.goL (iA (s.length : Int)) ?_)) | refine WK ?_ | refine All.i fun X => ?_ | refine AllY.i fun Y => ?_))
  refine AWP.lp4 (fun (i K n : Nat) (M : List AV) => ⟨[(0, sA s), (1, .ptr X 0 0), (10, iA s.length), (11, iA i)], (K, .row 3 1 M) :: (X, .row 22 1 [.sl K 0 n]) :: Sf⟩) (fun i _ n M => i ≤ s.length ∧ n = M.length ∧ M = (l ++ (nameI s).take (i + 1)).map iA) (fun i _ _ _ => s.length - i) 0 Y _ _ ⟨Nat.zero_le _, ?_, ?_⟩ ?_
  · simp
  · rw [List.map_append]; rfl
  rintro i K n M ⟨hi, hn, hM⟩
  (repeat (first | refine WK ?_ | refine All.i fun X => ?_ | refine AllY.i fun Y => ?_))
  refine AWP.cond rfl (fun hc => ?_) (fun hc => ?_)
  · have h : i < s.length := by rw [decide_eq_true_eq] at hc; omega
    have hMl : n = l.length + (i + 1) := by rw [hn, hM, List.length_map, List.length_append, List.length_take, hnl]; omega
    have hb : (n + [iA ((s.getD i 0).toNat : Int)].length) * 8 ≤ 140737488355328 := by simp; omega
    (repeat (first | refine WK ?_ | refine All.i fun X => ?_ | refine AllY.i fun Y => ?_))
    refine AWP.rs fun Y => ?_
    have hw : IntKind.i64.wrap ((s.getD i 0).toNat : Int) = ((s.getD i 0).toNat : Int) := wrap_id (by omega) (by have := (s.getD i 0).toNat_lt; omega)
    (repeat refine WF ?_); refine AWP.region_run (by kernel_rfl) (by kernel_rfl) ?_; (repeat (first | (refine RGo.gN ?_; first | refine RGo.p (W.conv .u8 .i64 (by kernel_rfl) (by kernel_rfl) rfl hw) rfl ?_ | (refine RGo.g_lit ?_; refine RGo.goL (iA ((s.getD i 0).toNat : Int)) ?_)) | (refine RGo.gQ ?_; first | refine RGo.p (W.conv .u8 .i64 (by kernel_rfl) (by kernel_rfl) rfl hw) rfl ?_ | (refine RGo.g_lit ?_; refine RGo.goL (iA ((s.getD i 0).toNat : Int)) ?_)) | refine RK ?_ | refine RGo.nil (by kernel_rfl) ?_))
    (repeat (first | refine WK ?_ | refine All.i fun X => ?_ | refine AllY.i fun Y => ?_))
    refine lp_next4 (i + 1) Y _ _ ⟨h, ?_, ?_⟩
    · rw [List.length_append, ← hn]
    · rw [nameI_at h, hM, ← List.append_assoc, List.map_append (l₂ := [_])]; rfl
  · have h : i = s.length := by rw [decide_eq_false_iff_not] at hc; omega
    subst h
    rw [List.take_of_length_le (by omega)] at hM
    subst hM
    refine AWP.closeIn (X := K) .here (.next .here) rfl hn (.head .here) ?_
    (repeat (first | refine WK ?_ | refine All.i fun X => ?_ | refine AllY.i fun Y => ?_))
    refine retQ_n ?_
    exact Ends.void [(X, outO (l ++ nameI s))] ⟨rfl, rfl⟩
def fieldI (f : Field) : List Int := nameI f.name ++ [f.bits, f.low]
def kindI (k : Kind) : List Int := nameI k.name ++ (k.fields.length : Int) :: k.fields.flatMap fieldI
def compI (c : Comp) : List Int := c.kind :: (c.vals.length : Int) :: c.vals
def itemI (it : Item) : List Int := it.ent.n :: it.ent.gen :: (it.comps.length : Int) :: it.comps.flatMap compI
/-- What world.Ints returns. -/
def intsOf (w : Wd) : List Int := (w.kinds.length : Int) :: (w.kinds.flatMap kindI ++ ((w.gens.length : Int) :: (w.gens ++ ((w.items.length : Int) :: w.items.flatMap itemI))))
theorem dropF {α : Type} {f : α → List Int} {l : List α} {i : Nat} {x : α} (h : i < l.length) (e : l[i] = x) : (l.drop i).flatMap f = f x ++ (l.drop (i + 1)).flatMap f := by
  rw [List.drop_eq_getElem_cons h, e, List.flatMap_cons]
theorem bndA {A B R : List Int} (hl : R.length * 8 ≤ 140737488351232) (e : A ++ B = R) : A.length * 8 ≤ 140737488351232 := by
  have : A.length + B.length = R.length := by rw [← e, List.length_append]
  omega
set_option maxHeartbeats 4000000 in
set_option maxRecDepth 4000 in
theorem ints_ps (w : Wd) (hl : (intsOf w).length * 8 ≤ 140737488351232) (hw : WdL w) : PS Try.prog 46 [wdA false w] (intsA true (intsOf w)) := by
  obtain ⟨R, hR⟩ : ∃ R, intsOf w = R := ⟨_, rfl⟩
  have hin := hR
  unfold intsOf at hin
  rw [hR] at hl ⊢
  obtain ⟨ks, gens, items⟩ := w
  obtain ⟨⟨hk0, hk1⟩, hg, ⟨hi0, hi1⟩⟩ := hw
  dsimp only at hin hk0 hk1 hg hi0 hi1
  obtain ⟨tail, htail⟩ : ∃ tail, ((gens.length : Int) :: (gens ++ ((items.length : Int) :: items.flatMap itemI))) = tail := ⟨_, rfl⟩
  rw [htail] at hin
  refine Spec.of (nt := 112) (res := [.tmp 2]) Try.func46 rfl (by kernel_rfl) rfl rfl rfl fun Sf => ?_
  have hkm : (ks.map (kindA false)).length = ks.length := List.length_map _
  have hgm : (gens.map iA).length = gens.length := List.length_map _
  have him : (items.map (itemA false)).length = items.length := List.length_map _
  (repeat refine WF ?_); refine AWP.region ?_; (repeat (first | (refine AOps.gN ?_; first | (refine AOps.g_box ?_; refine AOps.goB ?_)) | refine WO ?_ | refine All.i fun X => ?_ | refine AllY.i fun Y => ?_)); refine AOps.nil ?_; (repeat refine WN ?_)
  refine AWP.rs fun K0 => ?_
  (repeat refine WF ?_); refine AWP.region ?_; (repeat (first | (refine AOps.gN ?_; first | refine AOps.s (W.lit1 (X := K0) (l := [iA ((ks.map (kindA false)).length : Int)]) (by exact rfl) (by exact At.f) (by exact rfl) (by exact .inr rfl) (by decide) (by decide) (by exact rfl)) rfl ?_) | refine WO ?_ | refine All.i fun X => ?_ | refine AllY.i fun Y => ?_)); refine AOps.nil ?_; (repeat refine WN ?_)
  rw [hkm]
  refine AWP.closeIn (X := K0) (Y := X) (.next .here) .here rfl rfl (.head .here) ?_
  (repeat (first | refine WK ?_ | refine All.i fun X => ?_ | refine AllY.i fun Y => ?_))
  refine AWP.lp2 (fun (i : Nat) (L : List Int) => ⟨[(1, .fp (wdA false ⟨ks, gens, items⟩).cells), (3, .ptr X 0 0), (4, .fn 65 [.ptr X 0 0]), (19, kindsA false false ks), (20, iA (ks.map (kindA false)).length), (21, iA i)], (X, outO L) :: Sf⟩) (fun i L => i ≤ ks.length ∧ L ++ ((ks.drop i).flatMap kindI ++ tail) = R) (fun i _ => ks.length - i) 0 [(ks.length : Int)] ⟨Nat.zero_le _, hin⟩ ?_
  rintro i L ⟨hi, he⟩
  (repeat (first | refine WK ?_ | refine All.i fun X => ?_ | refine AllY.i fun Y => ?_))
  refine AWP.cond rfl (fun hc => ?_) (fun hc => ?_)
  · have h : i < ks.length := by rw [decide_eq_true_eq, hkm] at hc; omega
    obtain ⟨⟨kn, kf⟩, hk⟩ : ∃ k, ks[i] = k := ⟨_, rfl⟩
    have hat : (ks.map (kindA false))[i]? = some (kindA false ⟨kn, kf⟩) := by rw [List.getElem?_map, List.getElem?_eq_getElem h, hk]; rfl
    have hkl := hk1 _ (hk ▸ List.getElem_mem h)
    dsimp only at hkl
    rw [dropF h hk, kindI, ← List.append_assoc, ← List.append_assoc, ← List.append_assoc] at he
    have hkfm : (kf.map fieldA).length = kf.length := List.length_map _
    dsimp only at he
    have he1 : (L ++ nameI kn) ++ ([(kf.length : Int)] ++ (kf.flatMap fieldI ++ ((ks.drop (i + 1)).flatMap kindI ++ tail))) = R := by rw [← he]; simp
    have hcn := intsName_po X L kn (bndA hl he1)
    (repeat refine WF ?_); refine AWP.region ?_; (repeat (first | refine WO ?_ | refine All.i fun V => ?_ | refine AllY.i fun Y => ?_)); refine AOps.nil ?_; (repeat refine WN ?_)
    (repeat refine WF ?_); refine AWP.region ?_; (repeat (first | (refine AOps.gN ?_; first | (refine AOps.g_callv ?_; first | refine AOps.zc1 (h := hcn) (hT := .frz) (k := ?_))) | refine WO ?_ | refine All.i fun X => ?_ | refine AllY.i fun Y => ?_)); refine AOps.nil ?_; (repeat refine WN ?_)
    obtain ⟨L1, hL1⟩ : ∃ L1, L ++ nameI kn = L1 := ⟨_, rfl⟩
    rw [hL1] at he1 ⊢
    have he2 : (L1 ++ [(kf.length : Int)]) ++ (kf.flatMap fieldI ++ ((ks.drop (i + 1)).flatMap kindI ++ tail)) = R := by rw [← he1, List.append_assoc]
    refine AWP.thawIn (Y := X) (.next .here) (fun _ => .head .here) fun K => ?_
    have hb : ((L1.map iA).length + ([iA ((kf.map fieldA).length : Int)]).length) * 8 ≤ 140737488355328 := by have := bndA hl he2; simp at this ⊢; omega
    (repeat refine WF ?_); refine AWP.region ?_; (repeat (first | (refine AOps.gN ?_; first | (refine AOps.g_lit ?_; refine AOps.goL (iA (kf.map fieldA).length) ?_)) | refine WO ?_ | refine All.i fun X => ?_ | refine AllY.i fun Y => ?_)); refine AOps.nil ?_; (repeat refine WN ?_)
    have hrow : L1.map iA ++ [iA ((kf.map fieldA).length : Int)] = (L1 ++ [(kf.length : Int)]).map iA := by first | (rw [List.map_append, hkfm]; rfl) | rw [List.map_append, hkfm]
    rw [hrow]
    clear hrow hb
    refine AWP.closeIn (X := Y) (Y := X) .here (.next (.next .here)) rfl (by simp) (.head .here) ?_
    obtain ⟨T2, hT2⟩ : ∃ T2, (ks.drop (i + 1)).flatMap kindI ++ tail = T2 := ⟨_, rfl⟩
    rw [hT2] at he2
    clear he he1 hcn hL1 hin
    (repeat (first | refine WK ?_ | refine All.i fun X => ?_ | refine AllY.i fun Y => ?_))
    refine AWP.lp2 (fun (j : Nat) (L : List Int) => ⟨[(1, .fp (wdA false ⟨ks, gens, items⟩).cells), (3, .ptr X 0 0), (4, .fn 65 [.ptr X 0 0]), (19, kindsA false false ks), (20, iA (ks.map (kindA false)).length), (21, iA i), (36, fieldsA false kf), (37, iA (kf.map fieldA).length), (38, iA j)], (X, outO L) :: Sf⟩) (fun j L => j ≤ kf.length ∧ L ++ ((kf.drop j).flatMap fieldI ++ T2) = R) (fun j _ => kf.length - j) 0 (L1 ++ [(kf.length : Int)]) ⟨Nat.zero_le _, he2⟩ ?_
    clear he2 L1 L
    rintro j L ⟨hj, he⟩
    (repeat (first | refine WK ?_ | refine All.i fun X => ?_ | refine AllY.i fun Y => ?_))
    refine AWP.cond rfl (fun hd => ?_) (fun hd => ?_)
    · have h' : j < kf.length := by rw [decide_eq_true_eq, hkfm] at hd; omega
      obtain ⟨⟨fn, fb, fl⟩, hf⟩ : ∃ f, kf[j] = f := ⟨_, rfl⟩
      have hat2 : (kf.map fieldA)[j]? = some (fieldA ⟨fn, fb, fl⟩) := by rw [List.getElem?_map, List.getElem?_eq_getElem h', hf]; rfl
      rw [dropF h' hf, fieldI] at he
      dsimp only at he
      have he1 : (L ++ nameI fn) ++ ([fb, fl] ++ ((kf.drop (j + 1)).flatMap fieldI ++ T2)) = R := by rw [← he]; simp
      have hcn := intsName_po X L fn (bndA hl he1)
      (repeat refine WF ?_); refine AWP.region ?_; (repeat (first | refine WO ?_ | refine All.i fun V2 => ?_ | refine AllY.i fun Y => ?_)); refine AOps.nil ?_; (repeat refine WN ?_)
      (repeat refine WF ?_); refine AWP.region ?_; (repeat (first | (refine AOps.gN ?_; first | (refine AOps.g_callv ?_; first | refine AOps.zc1 (h := hcn) (hT := .frz) (k := ?_))) | refine WO ?_ | refine All.i fun X => ?_ | refine AllY.i fun Y => ?_)); refine AOps.nil ?_; (repeat refine WN ?_)
      obtain ⟨L1, hL1⟩ : ∃ L1, L ++ nameI fn = L1 := ⟨_, rfl⟩
      rw [hL1] at he1 ⊢
      have he2 : (L1 ++ [fb, fl]) ++ ((kf.drop (j + 1)).flatMap fieldI ++ T2) = R := by rw [← he1, List.append_assoc]
      refine AWP.thawIn (Y := X) (.next .here) (fun _ => .head .here) fun K => ?_
      have hb : ((L1.map iA).length + ([iA fb, iA fl]).length) * 8 ≤ 140737488355328 := by have := bndA hl he2; simp at this ⊢; omega
      (repeat refine WF ?_); refine AWP.region ?_; (repeat (first | refine WO ?_ | refine All.i fun X => ?_ | refine AllY.i fun Y => ?_)); refine AOps.nil ?_; (repeat refine WN ?_)
      have hrow : L1.map iA ++ [iA fb, iA fl] = (L1 ++ [fb, fl]).map iA := by first | (rw [List.map_append]; rfl) | rw [List.map_append]
      rw [hrow]
      clear hrow hb
      refine AWP.closeIn (X := Y) (Y := X) .here (.next (.next .here)) rfl (by simp) (.head .here) ?_
      (repeat (first | refine WK ?_ | refine All.i fun X => ?_ | refine AllY.i fun Y => ?_))
      refine lp_next2 (j + 1) _ ⟨h', he2⟩
    · have h' : j = kf.length := by rw [decide_eq_false_iff_not, hkfm] at hd; omega
      rw [h', List.drop_length] at he
      (repeat (first | refine WK ?_ | refine All.i fun X => ?_ | refine AllY.i fun Y => ?_))
      refine lp_next2 (i + 1) L ⟨h, by rw [hT2]; exact he⟩
  clear hin
  have h : i = ks.length := by rw [decide_eq_false_iff_not, hkm] at hc; omega
  rw [h, List.drop_length, ← htail] at he
  clear h hc hi
  have he2 : (L ++ [(gens.length : Int)]) ++ (gens ++ ((items.length : Int) :: items.flatMap itemI)) = R := by rw [← he]; simp
  (repeat first | refine AOps.nil ?_ | refine WF ?_)
  refine AWP.thawIn (Y := X) .here (fun _ => .head .here) fun K => ?_
  have hb : ((L.map iA).length + ([iA ((gens.map iA).length : Int)]).length) * 8 ≤ 140737488355328 := by have := bndA hl he2; simp at this ⊢; omega
  (repeat refine WF ?_); refine AWP.region ?_; (repeat (first | (refine AOps.gN ?_; first | (refine AOps.g_lit ?_; refine AOps.goL (iA (gens.map iA).length) ?_)) | refine WO ?_ | refine All.i fun X => ?_ | refine AllY.i fun Y => ?_)); refine AOps.nil ?_; (repeat refine WN ?_)
  have hrow : L.map iA ++ [iA ((gens.map iA).length : Int)] = (L ++ [(gens.length : Int)]).map iA := by first | (rw [List.map_append, hgm]; rfl) | rw [List.map_append, hgm]
  rw [hrow]
  clear hrow hb
  refine AWP.closeIn (X := Y) (Y := X) .here (.next .here) rfl (by simp) (.head .here) ?_
  obtain ⟨L1, hL1⟩ : ∃ L1, L ++ [(gens.length : Int)] = L1 := ⟨_, rfl⟩
  rw [hL1] at he2 ⊢
  have he3 : (L1 ++ gens) ++ ((items.length : Int) :: items.flatMap itemI) = R := by rw [← he2, List.append_assoc]
  refine AWP.thawIn (Y := X) (.next .here) (fun _ => .head .here) fun K => ?_
  have hb : ((L1.map iA).length + (gens.map iA).length) * 8 ≤ 140737488355328 := by have := bndA hl he3; simp at this ⊢; omega
  (repeat refine WF ?_); refine AWP.region ?_; (repeat (first | refine WO ?_ | refine All.i fun X => ?_ | refine AllY.i fun Y => ?_)); refine AOps.nil ?_; (repeat refine WN ?_)
  have hrow : L1.map iA ++ gens.map iA = (L1 ++ gens).map iA := by first | (rw [List.map_append]; rfl) | rw [List.map_append]
  rw [hrow]
  clear hrow hb
  refine AWP.closeIn (X := Y) (Y := X) .here (.next (.next .here)) rfl (by simp) (.head .here) ?_
  obtain ⟨L2, hL2⟩ : ∃ L2, L1 ++ gens = L2 := ⟨_, rfl⟩
  rw [hL2] at he3 ⊢
  have he4 : (L2 ++ [(items.length : Int)]) ++ items.flatMap itemI = R := by rw [← he3, List.append_assoc]; rfl
  refine AWP.thawIn (Y := X) (.next (.next .here)) (fun _ => .head .here) fun K => ?_
  have hb : ((L2.map iA).length + ([iA ((items.map (itemA false)).length : Int)]).length) * 8 ≤ 140737488355328 := by have := bndA hl he4; simp at this ⊢; omega
  (repeat refine WF ?_); refine AWP.region ?_; (repeat (first | (refine AOps.gN ?_; first | (refine AOps.g_lit ?_; refine AOps.goL (iA (items.map (itemA false)).length) ?_)) | refine WO ?_ | refine All.i fun X => ?_ | refine AllY.i fun Y => ?_)); refine AOps.nil ?_; (repeat refine WN ?_)
  have hrow : L2.map iA ++ [iA ((items.map (itemA false)).length : Int)] = (L2 ++ [(items.length : Int)]).map iA := by first | (rw [List.map_append, him]; rfl) | rw [List.map_append, him]
  rw [hrow]
  clear hrow hb
  refine AWP.closeIn (X := Y) (Y := X) .here (.next (.next (.next .here))) rfl (by simp) (.head .here) ?_
  clear he he2 he3 hL1 hL2 htail hk0 hk1
  (repeat (first | refine WK ?_ | refine All.i fun X => ?_ | refine AllY.i fun Y => ?_))
  refine AWP.lp2 (fun (i : Nat) (L : List Int) => ⟨[(1, .fp (wdA false ⟨ks, gens, items⟩).cells), (3, .ptr X 0 0), (72, itemsA false false items), (73, iA (items.map (itemA false)).length), (74, iA i)], (X, outO L) :: Sf⟩) (fun i L => i ≤ items.length ∧ L ++ (items.drop i).flatMap itemI = R) (fun i _ => items.length - i) 0 (L2 ++ [(items.length : Int)]) ⟨Nat.zero_le _, he4⟩ ?_
  clear he4 L2 L1 L
  rintro i L ⟨hi, he⟩
  (repeat (first | refine WK ?_ | refine All.i fun X => ?_ | refine AllY.i fun Y => ?_))
  refine AWP.cond rfl (fun hc => ?_) (fun hc => ?_)
  · have h : i < items.length := by rw [decide_eq_true_eq, him] at hc; omega
    obtain ⟨⟨⟨en, eg⟩, cs⟩, hit⟩ : ∃ it, items[i] = it := ⟨_, rfl⟩
    have hat : (items.map (itemA false))[i]? = some (itemA false ⟨⟨en, eg⟩, cs⟩) := by rw [List.getElem?_map, List.getElem?_eq_getElem h, hit]; rfl
    have hcl := hi1 _ (hit ▸ List.getElem_mem h)
    dsimp only at hcl
    obtain ⟨hcl0, hcl1⟩ := hcl
    have hcm : (cs.map (compA false)).length = cs.length := List.length_map _
    rw [dropF h hit, itemI] at he
    dsimp only at he
    have he2 : (L ++ [en, eg, (cs.length : Int)]) ++ (cs.flatMap compI ++ (items.drop (i + 1)).flatMap itemI) = R := by rw [← he]; simp
    (repeat refine WF ?_); refine AWP.region ?_; (repeat (first | refine WO ?_ | refine All.i fun V => ?_ | refine AllY.i fun Y => ?_)); refine AOps.nil ?_; (repeat refine WN ?_)
    refine AWP.thawIn (Y := X) (.next .here) (fun _ => .head .here) fun K => ?_
    have hb : ((L.map iA).length + ([iA en, iA eg, iA ((cs.map (compA false)).length : Int)]).length) * 8 ≤ 140737488355328 := by have := bndA hl he2; simp at this ⊢; omega
    (repeat refine WF ?_); refine AWP.region ?_; (repeat (first | refine WO ?_ | refine All.i fun X => ?_ | refine AllY.i fun Y => ?_)); refine AOps.nil ?_; (repeat refine WN ?_)
    have hrow : L.map iA ++ [iA en, iA eg, iA ((cs.map (compA false)).length : Int)] = (L ++ [en, eg, (cs.length : Int)]).map iA := by first | (rw [List.map_append, hcm]; rfl) | rw [List.map_append, hcm]
    rw [hrow]
    clear hrow hb
    refine AWP.closeIn (X := Y) (Y := X) .here (.next (.next .here)) rfl (by simp) (.head .here) ?_
    obtain ⟨T2, hT2⟩ : ∃ T2, (items.drop (i + 1)).flatMap itemI = T2 := ⟨_, rfl⟩
    rw [hT2] at he2
    (repeat (first | refine WK ?_ | refine All.i fun X => ?_ | refine AllY.i fun Y => ?_))
    refine AWP.lp2 (fun (j : Nat) (L : List Int) => ⟨[(1, .fp (wdA false ⟨ks, gens, items⟩).cells), (3, .ptr X 0 0), (72, itemsA false false items), (73, iA (items.map (itemA false)).length), (74, iA i), (91, compsA false false cs), (92, iA (cs.map (compA false)).length), (93, iA j)], (X, outO L) :: Sf⟩) (fun j L => j ≤ cs.length ∧ L ++ ((cs.drop j).flatMap compI ++ T2) = R) (fun j _ => cs.length - j) 0 _ ⟨Nat.zero_le _, he2⟩ ?_
    clear he2 he L
    rintro j L ⟨hj, he⟩
    (repeat (first | refine WK ?_ | refine All.i fun X => ?_ | refine AllY.i fun Y => ?_))
    refine AWP.cond rfl (fun hd => ?_) (fun hd => ?_)
    · have h' : j < cs.length := by rw [decide_eq_true_eq, hcm] at hd; omega
      obtain ⟨⟨ck, cv⟩, hf⟩ : ∃ c, cs[j] = c := ⟨_, rfl⟩
      have hat2 : (cs.map (compA false))[j]? = some (compA false ⟨ck, cv⟩) := by rw [List.getElem?_map, List.getElem?_eq_getElem h', hf]; rfl
      have hvm : (cv.map iA).length = cv.length := List.length_map _
      rw [dropF h' hf, compI] at he
      dsimp only at he
      have he2 : (L ++ [ck, (cv.length : Int)]) ++ (cv ++ ((cs.drop (j + 1)).flatMap compI ++ T2)) = R := by rw [← he]; simp
      (repeat refine WF ?_); refine AWP.region ?_; (repeat (first | refine WO ?_ | refine All.i fun V2 => ?_ | refine AllY.i fun Y => ?_)); refine AOps.nil ?_; (repeat refine WN ?_)
      refine AWP.thawIn (Y := X) (.next .here) (fun _ => .head .here) fun K => ?_
      have hb : ((L.map iA).length + ([iA ck, iA ((cv.map iA).length : Int)]).length) * 8 ≤ 140737488355328 := by have := bndA hl he2; simp at this ⊢; omega
      (repeat refine WF ?_); refine AWP.region ?_; (repeat (first | refine WO ?_ | refine All.i fun X => ?_ | refine AllY.i fun Y => ?_)); refine AOps.nil ?_; (repeat refine WN ?_)
      have hrow : L.map iA ++ [iA ck, iA ((cv.map iA).length : Int)] = (L ++ [ck, (cv.length : Int)]).map iA := by first | (rw [List.map_append, hvm]; rfl) | rw [List.map_append, hvm]
      rw [hrow]
      clear hrow hb
      refine AWP.closeIn (X := Y) (Y := X) .here (.next (.next .here)) rfl (by simp) (.head .here) ?_
      obtain ⟨L1, hL1⟩ : ∃ L1, L ++ [ck, (cv.length : Int)] = L1 := ⟨_, rfl⟩
      rw [hL1] at he2 ⊢
      have he3 : (L1 ++ cv) ++ ((cs.drop (j + 1)).flatMap compI ++ T2) = R := by rw [← he2, List.append_assoc]
      refine AWP.thawIn (Y := X) (.next (.next .here)) (fun _ => .head .here) fun K => ?_
      have hb : ((L1.map iA).length + (cv.map iA).length) * 8 ≤ 140737488355328 := by have := bndA hl he3; simp at this ⊢; omega
      (repeat refine WF ?_); refine AWP.region ?_; (repeat (first | refine WO ?_ | refine All.i fun X => ?_ | refine AllY.i fun Y => ?_)); refine AOps.nil ?_; (repeat refine WN ?_)
      have hrow : L1.map iA ++ cv.map iA = (L1 ++ cv).map iA := by first | (rw [List.map_append]; rfl) | rw [List.map_append]
      rw [hrow]
      clear hrow hb
      refine AWP.closeIn (X := Y) (Y := X) .here (.next (.next (.next .here))) rfl (by simp) (.head .here) ?_
      (repeat (first | refine WK ?_ | refine All.i fun X => ?_ | refine AllY.i fun Y => ?_))
      refine lp_next2 (j + 1) _ ⟨h', he3⟩
    · have h' : j = cs.length := by rw [decide_eq_false_iff_not, hcm] at hd; omega
      rw [h', List.drop_length] at he
      (repeat (first | refine WK ?_ | refine All.i fun X => ?_ | refine AllY.i fun Y => ?_))
      refine lp_next2 (i + 1) L ⟨h, by rw [hT2]; exact he⟩
  · have h : i = items.length := by rw [decide_eq_false_iff_not, him] at hc; omega
    rw [h, List.drop_length] at he
    have he : L = R := by simpa using he
    subst he
    refine AWP.thawIn (Y := X) .here (fun _ => .head .here) fun K => ?_
    (repeat (first | refine WK ?_ | refine All.i fun X => ?_ | refine AllY.i fun Y => ?_))
    (refine AWP.ret ?_; (repeat (first | refine inB_r ?_ | refine andThen_r ?_)); refine retQ_r ?_)
    exact ⟨[.sl K 0 (L.map iA).length], [intsA true L], _, [], .cons (.tmp rfl) rfl .nil, .cons (.cell (.sl (p := 0) .here rfl)) .nil, by exact Sub.f, rfl, rfl⟩
end Go.Proofs.Ytanokoededdceaa

namespace Go.Proofs.Ytanokoededdceaa
set_option linter.unusedVariables false
def mix1 (x : UInt64) : UInt64 := (x ^^^ (x >>> UInt64.ofNat 31)) * 7640891576956012809
def mix2 (x : UInt64) : UInt64 := (x ^^^ (x >>> UInt64.ofNat 27)) * 13503953896175478587
/-- What rnd.Mix returns. -/
def mixU (x : UInt64) : UInt64 := mix2 (mix1 x) ^^^ (mix2 (mix1 x) >>> UInt64.ofNat 30)
theorem mix_ps (x : UInt64) : PS Try.prog 35 [uA x] (uA (mixU x)) := by
  refine Spec.of (nt := 17) (res := [.tmp 2]) Try.func35 rfl (by kernel_rfl) rfl rfl rfl fun Sf => ?_
  (repeat refine WF ?_); refine AWP.region ?_; (repeat (first | refine WO ?_ | refine All.i fun X => ?_ | refine AllY.i fun Y => ?_)); refine AOps.nil ?_; (repeat refine WN ?_)
  (repeat refine WF ?_); refine AWP.region ?_; (repeat (first | (refine AOps.gN ?_; first | refine AOps.p (W.shrU 31 (by omega) rfl rfl rfl) rfl ?_ | refine AOps.p (W.xorU rfl rfl) rfl ?_ | refine AOps.p (W.mulU (b := 7640891576956012809) rfl rfl) rfl ?_) | refine WO ?_ | refine All.i fun X => ?_ | refine AllY.i fun Y => ?_)); refine AOps.nil ?_; (repeat refine WN ?_)
  rw [show (x ^^^ (x >>> UInt64.ofNat 31)) * 7640891576956012809 = mix1 x from rfl]
  (repeat refine WF ?_); refine AWP.region ?_; (repeat (first | (refine AOps.gN ?_; first | refine AOps.p (W.shrU 27 (by omega) rfl rfl rfl) rfl ?_ | refine AOps.p (W.xorU rfl rfl) rfl ?_ | refine AOps.p (W.mulU (b := 13503953896175478587) rfl rfl) rfl ?_) | refine WO ?_ | refine All.i fun X => ?_ | refine AllY.i fun Y => ?_)); refine AOps.nil ?_; (repeat refine WN ?_)
  rw [show (mix1 x ^^^ (mix1 x >>> UInt64.ofNat 27)) * 13503953896175478587 = mix2 (mix1 x) from rfl]
  (repeat refine WF ?_); refine AWP.region ?_; (repeat (first | (refine AOps.gN ?_; first | refine AOps.p (W.shrU 30 (by omega) rfl rfl rfl) rfl ?_ | refine AOps.p (W.xorU rfl rfl) rfl ?_) | refine WO ?_ | refine All.i fun X => ?_ | refine AllY.i fun Y => ?_)); refine AOps.nil ?_; (repeat refine WN ?_)
  (refine AWP.ret ?_; (repeat (first | refine inB_r ?_ | refine andThen_r ?_)); refine retQ_r ?_); refine Ends.ps ?_
  rfl
def joinU (a b : UInt64) : UInt64 := mixU (mixU (a + 5840696475078001361) * 11170449401992604703 + b)
theorem join_ps (a b : UInt64) : PS Try.prog 47 [uA a, uA b] (uA (joinU a b)) := by
  have h1 := mix_ps (a + 5840696475078001361)
  have h2 := mix_ps (mixU (a + 5840696475078001361) * 11170449401992604703 + b)
  refine Spec.of (nt := 12) (res := [.tmp 4]) Try.func47 rfl (by kernel_rfl) rfl rfl rfl fun Sf => ?_
  (repeat refine WF ?_); refine AWP.region ?_; (repeat (first | refine WO ?_ | refine All.i fun X => ?_ | refine AllY.i fun Y => ?_)); refine AOps.nil ?_; (repeat refine WN ?_)
  (repeat refine WF ?_); refine AWP.region ?_; (repeat (first | (refine AOps.gN ?_; first | refine AOps.p (W.addU (b := 5840696475078001361) rfl rfl) rfl ?_) | refine WO ?_ | refine All.i fun X => ?_ | refine AllY.i fun Y => ?_))
  refine AOps.c1 (h := h1) (k := ?_)
  (repeat (first | (refine AOps.gN ?_; first | refine AOps.p (W.mulU (b := 11170449401992604703) rfl rfl) rfl ?_ | refine AOps.p (W.addU rfl rfl) rfl ?_) | refine WO ?_ | refine All.i fun X => ?_ | refine AllY.i fun Y => ?_))
  refine AOps.c1 (h := h2) (k := ?_)
  (repeat (first | refine WO ?_ | refine All.i fun X => ?_ | refine AllY.i fun Y => ?_))
  (repeat first | refine AOps.nil ?_ | refine WF ?_)
  (refine AWP.ret ?_; (repeat (first | refine inB_r ?_ | refine andThen_r ?_)); refine retQ_r ?_); refine Ends.ps ?_
  rfl
/-- What sum.Words returns. -/
def wordsU (l : List UInt64) : UInt64 := l.foldl joinU (joinU 5840696475078001361 (UInt64.ofNat l.length))
theorem words_ps (l : List UInt64) (hl : l.length ≤ 1099511627776) : PS Try.prog 22 [.lst false 49 1 (l.map uA)] (uA (wordsU l)) := by
  have hlm : (l.map uA).length = l.length := List.length_map _
  have h1 := join_ps 5840696475078001361 (UInt64.ofNat (l.map uA).length)
  refine Spec.of (nt := 21) (res := [.tmp 2]) Try.func22 rfl (by kernel_rfl) rfl rfl rfl fun Sf => ?_
  (repeat refine WF ?_); refine AWP.region ?_; (repeat (first | refine WO ?_ | refine All.i fun X => ?_ | refine AllY.i fun Y => ?_)); refine AOps.nil ?_; (repeat refine WN ?_)
  (repeat (first | (refine AOps.gN ?_; first | (refine AOps.g_callf ?_; first | refine AOps.c2 (h := (h1 ..)) (k := ?_)) | refine AOps.p (W.toUN .i64 (l.map uA).length rfl (by omega) (by kernel_rfl) (by kernel_rfl) rfl) rfl ?_) | refine WK ?_ | refine All.i fun X => ?_ | refine AllY.i fun Y => ?_))
  refine AWP.lp2 (fun (i : Nat) (s : UInt64) => ⟨[(3, uA s), (10, .lst false 49 1 (l.map uA)), (11, iA (l.map uA).length), (12, iA i)], Sf⟩) (fun i s => i ≤ l.length ∧ (l.drop i).foldl joinU s = wordsU l) (fun i _ => l.length - i) 0 (joinU 5840696475078001361 (UInt64.ofNat (l.map uA).length)) ⟨Nat.zero_le _, by rw [hlm]; rfl⟩ ?_
  rintro i s ⟨hi, hs⟩
  (repeat (first | refine WK ?_ | refine All.i fun X => ?_ | refine AllY.i fun Y => ?_))
  refine AWP.cond rfl (fun hc => ?_) (fun hc => ?_)
  · have h : i < l.length := by rw [decide_eq_true_eq, hlm] at hc; omega
    have hat : (l.map uA)[i]? = some (uA l[i]) := by rw [List.getElem?_map, List.getElem?_eq_getElem h]; rfl
    have h2 := join_ps s l[i]
    (repeat (first | (refine AOps.gN ?_; first | (refine AOps.g_callf ?_; first | refine AOps.c2 (h := (h2 ..)) (k := ?_))) | refine WK ?_ | refine All.i fun X => ?_ | refine AllY.i fun Y => ?_))
    refine lp_next2 (i + 1) _ ⟨h, ?_⟩
    rw [← hs, List.drop_eq_getElem_cons h]; rfl
  · have h : i = l.length := by rw [decide_eq_false_iff_not, hlm] at hc; omega
    rw [h, List.drop_length] at hs
    (repeat (first | refine WK ?_ | refine All.i fun X => ?_ | refine AllY.i fun Y => ?_))
    (refine AWP.ret ?_; (repeat (first | refine inB_r ?_ | refine andThen_r ?_)); refine retQ_r ?_); refine Ends.ps ?_
    rw [← hs]; rfl
/-- What sum.Ints returns. -/
def sumI (l : List Int) : UInt64 := wordsU (l.map UInt64.ofInt)
theorem sumI_ps (l : List Int) (hl : l.length ≤ 1099511627776) : PS Try.prog 45 [intsA false l] (uA (sumI l)) := by
  have hlm : (l.map iA).length = l.length := List.length_map _
  have hw := words_ps (l.map UInt64.ofInt) (by rw [List.length_map]; omega)
  have hz0 : List.replicate (l.map iA).length (uA 0) = fillTo (fun x => uA (UInt64.ofInt x)) (uA 0) l 0 := by rw [fillTo_zero, hlm]
  refine Spec.of (nt := 24) (res := [.tmp 2]) Try.func45 rfl (by kernel_rfl) rfl rfl rfl fun Sf => ?_
  (repeat (first | (refine AOps.gN ?_; first | (refine AOps.g_make ?_; refine AOps.goM ((uA 0)) fun K => ?_)) | refine WK ?_ | refine All.i fun X => ?_ | refine AllY.i fun Y => ?_))
  rw [hz0]
  refine AWP.lp2 (fun (i : Nat) (M : List AV) => ⟨[(3, .sl K 0 (l.map iA).length), (9, intsA false l), (10, iA (l.map iA).length), (11, iA i)], (K, .row 49 1 M) :: Sf⟩) (fun i M => i ≤ l.length ∧ M = fillTo (fun x => uA (UInt64.ofInt x)) (uA 0) l i) (fun i _ => l.length - i) 0 _ ⟨Nat.zero_le _, rfl⟩ ?_
  rintro i M ⟨hi, hM⟩
  (repeat (first | refine WK ?_ | refine All.i fun X => ?_ | refine AllY.i fun Y => ?_))
  refine AWP.cond rfl (fun hc => ?_) (fun hc => ?_)
  · have h : i < l.length := by rw [decide_eq_true_eq, hlm] at hc; omega
    have hat : (l.map iA)[i]? = some (iA l[i]) := by rw [List.getElem?_map, List.getElem?_eq_getElem h]; rfl
    have hset := fillTo_set (fun x => uA (UInt64.ofInt x)) (uA 0) l h
    have hMat : M[i]? = some (uA 0) := by rw [hM]; exact fillTo_at _ _ _ h
    have hil : i < (l.map iA).length := by omega
    (repeat (first | (refine AOps.gN ?_; first | refine AOps.p (W.toU .i64 (by kernel_rfl) (by kernel_rfl) rfl) rfl ?_) | refine WK ?_ | refine All.i fun X => ?_ | refine AllY.i fun Y => ?_))
    refine lp_next2 (i + 1) _ ⟨h, ?_⟩
    rw [hM]; exact hset
  · have h : i = l.length := by rw [decide_eq_false_iff_not, hlm] at hc; omega
    subst h
    rw [fillTo_all _ _ _ (Nat.le_refl _)] at hM
    have hM2 : M = (l.map UInt64.ofInt).map uA := by rw [hM, List.map_map]; rfl
    subst hM2
    have hlen : (l.map iA).length = ((l.map UInt64.ofInt).map uA).length := by simp
    (repeat first | refine AOps.nil ?_ | refine WF ?_)
    refine AWP.iceL 3 ((l.map UInt64.ofInt).map uA) Frzs.h ?_
    (repeat (first | (refine AOps.gN ?_; first | (refine AOps.g_callf ?_; first | refine AOps.c1 (h := (hw ..)) (k := ?_))) | refine WK ?_ | refine All.i fun X => ?_ | refine AllY.i fun Y => ?_))
    (refine AWP.ret ?_; (repeat (first | refine inB_r ?_ | refine andThen_r ?_)); refine retQ_r ?_); refine Ends.ps ?_
    rfl
end Go.Proofs.Ytanokoededdceaa

namespace Go.Proofs.Ytanokoededdceaa
set_option linter.unusedVariables false
theorem flat_le {α : Type} {f : α → List Int} {m : Nat} : ∀ {l : List α}, (∀ x ∈ l, (f x).length ≤ m) → (l.flatMap f).length ≤ l.length * m
  | [], _ => by simp
  | x :: l, h => by
    have h1 := h x (by simp)
    have h2 := flat_le (f := f) (m := m) (l := l) fun y hy => h y (by simp [hy])
    rw [List.flatMap_cons, List.length_append, List.length_cons, Nat.add_mul]
    omega
theorem nameOk_len {s : List UInt8} (h : nameOk s = true) : s.length ≤ 16 := by
  unfold nameOk at h
  simp only [Bool.and_eq_true, decide_eq_true_eq] at h
  exact h.1.2
theorem intsOf_small {w : Wd} (h : WdOK w) : (intsOf w).length ≤ 65536 := by
  obtain ⟨h16, ho⟩ := checkErr_one h.ks
  have hf : ∀ f : Field, nameOk f.name = true → (fieldI f).length ≤ 19 := fun f hf => by
    have := nameOk_len hf
    simp [fieldI, nameI]; omega
  have hk : ∀ k ∈ w.kinds, (kindI k).length ≤ 170 := fun k hk => by
    obtain ⟨h1, h2, h3⟩ := oneErr_zero (ho k hk)
    have := nameOk_len h1
    have h4 := flat_le (f := fieldI) (m := 19) (l := k.fields) fun f hfm => hf f ((fieldErr_eq_zero f).1 (h3 f hfm)).1
    simp only [kindI, nameI, List.length_append, List.length_cons, List.length_map]
    omega
  have hc : ∀ it ∈ w.items, (itemI it).length ≤ 163 := fun it hit => by
    obtain ⟨h1, h2⟩ := held_small h.ks (h.it it hit).2.2.2.2
    have h4 := flat_le (f := compI) (m := 10) (l := it.comps) fun c hc => by have := h2 c hc; simp only [compI, List.length_cons]; omega
    simp only [itemI, List.length_cons]
    omega
  have k1 := flat_le hk
  have k2 := flat_le hc
  have := h.gl
  have := h.il
  simp only [intsOf, List.length_cons, List.length_append]
  omega
theorem digest_ps (w : Wd) (h : WdOK w) : PS Try.prog 21 [wdA false w] (uA (sumI (intsOf w))) := by
  have hs := intsOf_small h
  have h1 := ints_ps w (by omega) h.wl
  have h2 := sumI_ps (intsOf w) (by omega)
  refine Spec.of (nt := 6) (res := [.tmp 2]) Try.func21 rfl (by kernel_rfl) rfl rfl rfl fun Sf => ?_
  (repeat refine WF ?_); refine AWP.region ?_; (repeat (first | (refine AOps.gN ?_; first | (refine AOps.g_box ?_; refine AOps.goB ?_)) | refine WO ?_ | refine All.i fun X => ?_ | refine AllY.i fun Y => ?_)); refine AOps.nil ?_; (repeat refine WN ?_)
  (repeat refine WF ?_); refine AWP.region ?_; (repeat (first | (refine AOps.gN ?_; first | (refine AOps.g_callf ?_; first | refine AOps.c1 (h := (h1 ..)) (k := ?_) | refine AOps.c1 (h := (h2 ..)) (k := ?_))) | refine WO ?_ | refine All.i fun X => ?_ | refine AllY.i fun Y => ?_)); refine AOps.nil ?_; (repeat refine WN ?_)
  (refine AWP.ret ?_; (repeat (first | refine inB_r ?_ | refine andThen_r ?_)); refine retQ_r ?_); refine Ends.ps ?_
  rfl
end Go.Proofs.Ytanokoededdceaa

namespace Go.Proofs.Ytanokoededdceaa
set_option linter.unusedVariables false
theorem worldNew_ps (ks : List Kind) (hk : checkErr ks = 0) (hl : KsL ks) : PS Try.prog 19 [kindsA false false ks] (.tup [wdS ⟨ks, [], []⟩, iA 0]) := by
  have h1 := check_ps ks
  rw [hk] at h1
  have h2 := kindCopy_ps ks hl.1 hl.2
  refine Spec.of (nt := 14) (res := [.cell 2 27, .tmp 3]) Try.func19 rfl (by kernel_rfl) rfl rfl rfl fun Sf => ?_
  (repeat refine WF ?_); refine AWP.region ?_; (repeat (first | refine WO ?_ | refine All.i fun R => ?_ | refine AllY.i fun Y => ?_)); refine AOps.nil ?_; (repeat refine WN ?_)
  (repeat refine WF ?_); refine AWP.region ?_; (repeat (first | (refine AOps.gN ?_; first | (refine AOps.g_callf ?_; first | refine AOps.c1 (h := (h1 ..)) (k := ?_))) | refine WO ?_ | refine All.i fun X => ?_ | refine AllY.i fun Y => ?_)); refine AOps.nil ?_; (repeat refine WN ?_)
  (repeat (first | refine WK ?_ | refine All.i fun X => ?_ | refine AllY.i fun Y => ?_))
  refine AWP.cond_f rfl rfl ?_
  (repeat (first | (refine AOps.gN ?_; first | (refine AOps.g_callf ?_; first | refine AOps.c1 (h := (h2 ..)) (k := ?_))) | refine WK ?_ | refine All.i fun X => ?_ | refine AllY.i fun Y => ?_))
  (refine AWP.ret ?_; (repeat (first | refine inB_r ?_ | refine andThen_r ?_)); refine retQ_r ?_)
  exact Ends.cv [.agg [kindsA false false ks, .prim (.slice none 0 0), .prim (.slice none 0 0)], iA 0] [wdS ⟨ks, [], []⟩, iA 0] (.cons (.agg (.cons .same (.cons .nil (.cons .nil .nil)))) (.cons (.cell .same) .nil))
theorem wordsNil_ps : PS Try.prog 22 [.prim (.slice none 0 0)] (uA (wordsU [])) := PS.lend (words_ps [] (by decide)) rfl (.cons .nil .nil)
theorem bytesNil0_ps : PS Try.prog 23 [.lst false 5 1 []] (uA (joinU 11170449401992604703 0)) := by
  have h1 := join_ps 11170449401992604703 0
  obtain ⟨d, hd⟩ : ∃ d, joinU 11170449401992604703 0 = d := ⟨_, rfl⟩
  rw [hd] at h1 ⊢
  refine Spec.of (nt := 42) (res := [.tmp 2]) Try.func23 rfl (by kernel_rfl) rfl rfl rfl fun Sf => ?_
  (repeat refine WF ?_); refine AWP.region ?_; (repeat (first | refine WO ?_ | refine All.i fun X => ?_ | refine AllY.i fun Y => ?_)); refine AOps.nil ?_; (repeat refine WN ?_)
  (repeat (first | (refine AOps.gN ?_; first | (refine AOps.g_callf ?_; first | refine AOps.c2 (h := (h1 ..)) (k := ?_)) | refine AOps.p (W.toUN .i64 0 rfl (by omega) (by kernel_rfl) (by kernel_rfl) rfl) rfl ?_) | refine WK ?_ | refine All.i fun X => ?_ | refine AllY.i fun Y => ?_))
  refine AWP.lp (fun _ : Unit => ⟨[(0, .lst false 5 1 []), (3, uA d)], Sf⟩) (fun _ => True) (fun _ => 0) () trivial ?_
  rintro _ _
  (repeat (first | refine WK ?_ | refine All.i fun X => ?_ | refine AllY.i fun Y => ?_))
  refine AWP.cond_f rfl rfl ?_
  (repeat (first | refine WK ?_ | refine All.i fun X => ?_ | refine AllY.i fun Y => ?_))
  (refine AWP.ret ?_; (repeat (first | refine inB_r ?_ | refine andThen_r ?_)); refine retQ_r ?_); refine Ends.ps ?_
  rfl
theorem bytesNil_ps : PS Try.prog 23 [.prim (.slice none 0 0)] (uA (joinU 11170449401992604703 0)) := PS.lend bytesNil0_ps rfl (.cons .nil .nil)
abbrev h6Ks : List Kind := [⟨[97], [⟨[120], 4, 0⟩]⟩]
abbrev h6W : Wd := ⟨h6Ks, [], []⟩
abbrev h6V : Wd := ⟨h6Ks, [0], [⟨⟨0, 0⟩, [⟨0, [3]⟩]⟩]⟩
theorem h6_spawn : spawnOf h6W [⟨0, [3]⟩] = (h6V, ⟨0, 0⟩, 0) := by
  unfold spawnOf
  rw [wFit_held (by decide) (by decide)]
  decide
theorem h6W_ok : WdOK h6W := (wdErr_iff _).1 (by decide)
theorem h6V_ok : WdOK h6V := (wdErr_iff _).1 (by decide)
theorem h6_digest : sumI (intsOf h6V) ≠ sumI (intsOf h6W) := of_decide_eq_true (by kernel_rfl)
theorem h6_nil : wordsU [] ≠ joinU 11170449401992604703 0 := by decide
set_option maxRecDepth 8000 in
set_option maxHeartbeats 1000000 in
theorem h6begun_ps : PS Try.prog 5 [] (bA true) := by
  have h1 := worldNew_ps h6Ks (by decide) ⟨by decide, fun k hk => by rw [List.mem_singleton.1 hk]; decide⟩
  have h2 := spawn_ps h6W [⟨0, [3]⟩] h6W_ok.wl (by decide) (by decide)
  rw [h6_spawn] at h2
  have h3 := digest_ps h6V h6V_ok
  have h4 := digest_ps h6W h6W_ok
  have h5 := wordsNil_ps
  have h6 := bytesNil_ps
  have n1 := h6_digest
  have n2 := h6_nil
  obtain ⟨a, ha⟩ : ∃ a, sumI (intsOf h6V) = a := ⟨_, rfl⟩
  obtain ⟨b, hb⟩ : ∃ a, sumI (intsOf h6W) = a := ⟨_, rfl⟩
  obtain ⟨c, hc⟩ : ∃ a, wordsU [] = a := ⟨_, rfl⟩
  obtain ⟨d, hd⟩ : ∃ a, joinU 11170449401992604703 0 = a := ⟨_, rfl⟩
  rw [ha] at h3 n1
  rw [hb] at h4 n1
  rw [hc] at h5 n2
  rw [hd] at h6 n2
  clear ha hb hc hd
  have m1 : decide ((a.toNat : Int) ≠ (b.toNat : Int)) = true := decide_eq_true fun e => n1 (UInt64.toNat_inj.1 (Int.ofNat_inj.1 e))
  have m2 : decide ((c.toNat : Int) ≠ (d.toNat : Int)) = true := decide_eq_true fun e => n2 (UInt64.toNat_inj.1 (Int.ofNat_inj.1 e))
  refine Spec.of (nt := 44) (res := [.tmp 0]) Try.func5 rfl (by kernel_rfl) rfl rfl rfl fun Sf => ?_
  (repeat refine WF ?_); refine AWP.region ?_; (repeat (first | refine WO ?_ | refine All.i fun X => ?_ | refine AllY.i fun Y => ?_)); refine AOps.nil ?_; (repeat refine WN ?_)
  (repeat first | refine AOps.nil ?_ | refine WF ?_)
  (repeat refine WF ?_); refine AWP.region ?_; (repeat (first | (refine AOps.gN ?_; first | (refine AOps.g_callf ?_; first | refine AOps.c1 (h := (h1 ..)) (k := ?_))) | refine WO ?_ | refine All.i fun R1 => ?_ | refine AllY.i fun Y => ?_)); refine AOps.nil ?_; (repeat refine WN ?_)
  (repeat (first | refine WK ?_ | refine All.i fun X => ?_ | refine AllY.i fun Y => ?_))
  refine AWP.cond_f rfl rfl ?_
  (repeat first | refine AOps.nil ?_ | refine WF ?_)
  (repeat refine WF ?_); refine AWP.region ?_; (repeat (first | (refine AOps.gN ?_; first | (refine AOps.g_callf ?_; first | refine AOps.c2 (h := (h2 ..)) (k := ?_))) | refine WO ?_ | refine All.i fun R3 => ?_ | refine AllY.i fun Y => ?_)); refine AOps.nil ?_; (repeat refine WN ?_)
  (repeat first | refine AOps.nil ?_ | refine WF ?_)
  (repeat refine WF ?_); refine AWP.region_run (by kernel_rfl) (by kernel_rfl) ?_; (repeat (first | (refine RGo.gN ?_; first | (refine RGo.g_callf ?_; first | refine RGo.c1 (h := (h3 ..)) (k := ?_) | refine RGo.c1 (h := (h4 ..)) (k := ?_) | refine RGo.c1 (h := (h5 ..)) (k := ?_) | refine RGo.c1 (h := (h6 ..)) (k := ?_)) | refine RGo.go (h := W.eqP _ _ (by kernel_rfl) (entEql 0 0 0 0) rfl rfl) (k := ?_)) | (refine RGo.gQ ?_; first | (refine RGo.g_callf ?_; first | refine RGo.c1 (h := (h3 ..)) (k := ?_) | refine RGo.c1 (h := (h4 ..)) (k := ?_) | refine RGo.c1 (h := (h5 ..)) (k := ?_) | refine RGo.c1 (h := (h6 ..)) (k := ?_)) | refine RGo.go (h := W.eqP _ _ (by kernel_rfl) (entEql 0 0 0 0) rfl rfl) (k := ?_)) | refine RK ?_ | refine RGo.nil (by kernel_rfl) ?_))
  (repeat first | refine AOps.nil ?_ | refine WF ?_)
  (refine AWP.ret ?_; (repeat (first | refine inB_r ?_ | refine andThen_r ?_)); refine retQ_r ?_); refine Ends.ps ?_
  exact congrArg bA m2
end Go.Proofs.Ytanokoededdceaa

namespace Go.Proofs.Ytanokoededdceaa
set_option linter.unusedVariables false
/-- A value with its number, and when it came. -/
structure HI (α : Type) where
  v : α
  rank : Int
  came : Int
section
variable {α : Type}
def bef (a b : HI α) : Bool := if a.rank ≠ b.rank then decide (a.rank < b.rank) else decide (a.came < b.came)
def hle (a b : HI α) : Prop := a.rank < b.rank ∨ a.rank = b.rank ∧ a.came ≤ b.came
theorem bef_iff {a b : HI α} : bef a b = true ↔ a.rank < b.rank ∨ a.rank = b.rank ∧ a.came < b.came := by
  unfold bef
  split
  · simp; omega
  · simp; omega
theorem hle_of {a b : HI α} (h : bef b a = false) : hle a b := by
  have : ¬ (b.rank < a.rank ∨ b.rank = a.rank ∧ b.came < a.came) := fun h' => by rw [bef_iff.2 h'] at h; cases h
  unfold hle
  omega
theorem hle_bef {a b : HI α} (h : bef a b = true) : hle a b := by
  have := bef_iff.1 h
  unfold hle
  omega
theorem hle.refl (a : HI α) : hle a a := .inr ⟨rfl, Int.le_refl _⟩
theorem hle.trans {a b c : HI α} (h : hle a b) (k : hle b c) : hle a c := by
  unfold hle at *
  omega
def befAt (l : List (HI α)) (i k : Nat) : Bool := match l[i]?, l[k]? with
  | some a, some b => bef a b
  | _, _ => false
theorem befAt_eq {l : List (HI α)} {i k : Nat} (hi : i < l.length) (hk : k < l.length) : befAt l i k = bef l[i] l[k] := by
  unfold befAt
  rw [List.getElem?_eq_getElem hi, List.getElem?_eq_getElem hk]
def swpH (l : List (HI α)) (i k : Nat) : List (HI α) := match l[i]?, l[k]? with
  | some a, some b => (l.set i b).set k a
  | _, _ => l
theorem swpH_eq {l : List (HI α)} {i k : Nat} (hi : i < l.length) (hk : k < l.length) : swpH l i k = (l.set i l[k]).set k l[i] := by
  unfold swpH
  rw [List.getElem?_eq_getElem hi, List.getElem?_eq_getElem hk]
theorem swpH_len (l : List (HI α)) (i k : Nat) : (swpH l i k).length = l.length := by
  unfold swpH
  split
  · simp
  · rfl
theorem swpH_perm (l : List (HI α)) (i k : Nat) : (swpH l i k).Perm l := by
  unfold swpH
  split
  · rename_i a b ha hb
    obtain ⟨hi, rfl⟩ := List.getElem?_eq_some_iff.1 ha
    obtain ⟨hk, rfl⟩ := List.getElem?_eq_some_iff.1 hb
    exact List.set_set_perm hi hk
  · exact .refl _
theorem swpH_at {l : List (HI α)} {i k j : Nat} (hi : i < l.length) (hk : k < l.length) (hj : j < (swpH l i k).length) : (swpH l i k)[j] = if j = k then l[i] else if j = i then l[k] else l[j]'(by rw [swpH_len] at hj; exact hj) := by
  have hj' : j < l.length := by rw [swpH_len] at hj; exact hj
  have : (swpH l i k)[j]? = some (if j = k then l[i] else if j = i then l[k] else l[j]) := by
    rw [swpH_eq hi hk, List.getElem?_set, List.getElem?_set]
    simp only [List.length_set]
    by_cases h1 : k = j
    · subst h1; simp [hk]
    · rw [if_neg h1, if_neg (Ne.symm h1)]
      by_cases h2 : i = j
      · subst h2; simp [hi]
      · rw [if_neg h2, if_neg (Ne.symm h2)]
        exact List.getElem?_eq_getElem hj'
  obtain ⟨_, h⟩ := List.getElem?_eq_some_iff.1 this
  exact h
/-- Towards the root. -/
def upM (l : List (HI α)) (i : Nat) : List (HI α) := if 0 < i ∧ befAt l i ((i - 1) / 2) = true then upM (swpH l i ((i - 1) / 2)) ((i - 1) / 2) else l
termination_by i
decreasing_by omega
/-- The child that comes first. -/
def kid (l : List (HI α)) (i : Nat) : Nat := if 2 * i + 2 < l.length ∧ befAt l (2 * i + 2) (2 * i + 1) = true then 2 * i + 2 else 2 * i + 1
/-- Away from the root. -/
def downM (l : List (HI α)) (i : Nat) : List (HI α) := if kid l i < l.length ∧ befAt l i (kid l i) = false then downM (swpH l i (kid l i)) (kid l i) else l
termination_by l.length - i
decreasing_by
  rw [swpH_len]
  have : i < kid l i := by unfold kid; split <;> omega
  omega
def putM (l : List (HI α)) (x : HI α) : List (HI α) := upM (l ++ [x]) l.length
/-- What is left when the first is taken. -/
def restM (l : List (HI α)) : List (HI α) := match l[l.length - 1]? with
  | some x => downM ((l.set 0 x).take (l.length - 1)) 0
  | none => []
/-- No child comes before its parent. -/
def Hp (l : List (HI α)) : Prop := ∀ j (hj : j < l.length), 0 < j → hle (l[(j - 1) / 2]'(by omega)) l[j]
theorem up_perm (i : Nat) : ∀ l : List (HI α), (upM l i).Perm l := by
  induction i using Nat.strongRecOn with
  | _ i ih =>
    intro l
    rw [upM]
    split
    · rename_i h
      exact (ih _ (by omega) _).trans (swpH_perm _ _ _)
    · exact .refl _
theorem up_heap (i : Nat) : ∀ (l : List (HI α)) (hi : i < l.length) (H1 : ∀ j (hj : j < l.length), 0 < j → j ≠ i → hle (l[(j - 1) / 2]'(by omega)) l[j]) (H2 : ∀ j (hj : j < l.length), 0 < i → 0 < j → (j - 1) / 2 = i → hle (l[(i - 1) / 2]'(by omega)) l[j]), Hp (upM l i) := by
  induction i using Nat.strongRecOn with
  | _ i ih =>
    intro l hi H1 H2
    rw [upM]
    split
    · rename_i h
      obtain ⟨h0, hb⟩ := h
      have hp : (i - 1) / 2 < l.length := by omega
      rw [befAt_eq hi hp] at hb
      have hip := hle_bef hb
      refine ih _ (by omega) _ (by rw [swpH_len]; exact hp) (fun j hj hj0 hjp => ?_) fun j hj hp0 hj0 hjp => ?_
      · have hj' : j < l.length := by rw [swpH_len] at hj; exact hj
        rw [swpH_at hi hp, swpH_at hi hp]
        by_cases e1 : j = i
        · subst e1
          rw [if_pos rfl, if_neg hjp, if_pos rfl]
          exact hip
        · rw [if_neg hjp, if_neg e1]
          by_cases e2 : (j - 1) / 2 = i
          · rw [if_neg (by omega), if_pos e2]
            exact H2 j hj' h0 hj0 e2
          · by_cases e3 : (j - 1) / 2 = (i - 1) / 2
            · rw [if_pos e3]
              have := H1 j hj' hj0 e1
              simp only [e3] at this
              exact hip.trans this
            · rw [if_neg e3, if_neg e2]
              exact H1 j hj' hj0 e1
      · have hj' : j < l.length := by rw [swpH_len] at hj; exact hj
        rw [swpH_at hi hp, swpH_at hi hp]
        rw [if_neg (by omega), if_neg (by omega), if_neg (by omega)]
        have hpp := H1 ((i - 1) / 2) hp hp0 (by omega)
        by_cases e1 : j = i
        · rw [if_pos e1]
          exact hpp
        · rw [if_neg e1]
          have := H1 j hj' hj0 e1
          simp only [hjp] at this
          exact hpp.trans this
    · rename_i h
      intro j hj hj0
      by_cases e : j = i
      · subst e
        have hp : (j - 1) / 2 < l.length := by omega
        have hb : befAt l j ((j - 1) / 2) = false := by
          cases hq : befAt l j ((j - 1) / 2) with
          | false => rfl
          | true => exact absurd ⟨hj0, hq⟩ h
        rw [befAt_eq hj hp] at hb
        exact hle_of hb
      · exact H1 j hj hj0 e
theorem kid_or (l : List (HI α)) (i : Nat) : kid l i = 2 * i + 1 ∨ kid l i = 2 * i + 2 ∧ 2 * i + 2 < l.length := by
  unfold kid
  split
  · rename_i h; exact .inr ⟨rfl, h.1⟩
  · exact .inl rfl
theorem kid_min {l : List (HI α)} {i j : Nat} (hk : kid l i < l.length) (hj : j < l.length) (h : j = 2 * i + 1 ∨ j = 2 * i + 2) : hle (l[kid l i]) l[j] := by
  by_cases h1 : 2 * i + 2 < l.length
  · have hb := befAt_eq h1 (show 2 * i + 1 < l.length by omega)
    cases hq : befAt l (2 * i + 2) (2 * i + 1) with
    | true =>
      have e : kid l i = 2 * i + 2 := by unfold kid; rw [if_pos ⟨h1, hq⟩]
      simp only [e]
      rw [hq] at hb
      rcases h with rfl | rfl
      · exact hle_bef hb.symm
      · exact .refl _
    | false =>
      have e : kid l i = 2 * i + 1 := by unfold kid; rw [if_neg (by rw [hq]; simp)]
      simp only [e]
      rw [hq] at hb
      rcases h with rfl | rfl
      · exact .refl _
      · exact hle_of hb.symm
  · have e : kid l i = 2 * i + 1 := by unfold kid; rw [if_neg fun h => h1 h.1]
    simp only [e]
    rcases h with rfl | rfl
    · exact .refl _
    · omega
theorem down_perm (n : Nat) : ∀ (l : List (HI α)) (i : Nat), l.length - i ≤ n → (downM l i).Perm l := by
  induction n with
  | zero =>
    intro l i h
    rw [downM]
    split
    · rename_i hk
      have := kid_or l i
      omega
    · exact .refl _
  | succ n ih =>
    intro l i h
    rw [downM]
    split
    · rename_i hk
      have := kid_or l i
      exact (ih _ _ (by rw [swpH_len]; omega)).trans (swpH_perm _ _ _)
    · exact .refl _
theorem down_heap (n : Nat) : ∀ (l : List (HI α)) (i : Nat), l.length - i ≤ n → (∀ j (hj : j < l.length), 0 < j → (j - 1) / 2 ≠ i → hle (l[(j - 1) / 2]'(by omega)) l[j]) → (∀ j (hj : j < l.length) (h0 : 0 < i) (h1 : 0 < j) (h2 : (j - 1) / 2 = i), hle (l[(i - 1) / 2]'(by omega)) l[j]) → Hp (downM l i) := by
  have stop : ∀ (l : List (HI α)) (i : Nat), ¬ (kid l i < l.length ∧ befAt l i (kid l i) = false) → (∀ j (hj : j < l.length), 0 < j → (j - 1) / 2 ≠ i → hle (l[(j - 1) / 2]'(by omega)) l[j]) → Hp l := by
    intro l i h H1 j hj hj0
    by_cases e : (j - 1) / 2 = i
    · have hor := kid_or l i
      have hk : kid l i < l.length := by omega
      have hi : i < l.length := by omega
      have hb : befAt l i (kid l i) = true := by
        cases hq : befAt l i (kid l i) with
        | true => rfl
        | false => exact absurd ⟨hk, hq⟩ h
      rw [befAt_eq hi hk] at hb
      simp only [e]
      exact (hle_bef hb).trans (kid_min hk hj (by omega))
    · exact H1 j hj hj0 e
  induction n with
  | zero =>
    intro l i h H1 H2
    rw [downM]
    split
    · rename_i hk
      have := kid_or l i
      omega
    · exact stop l i ‹_› H1
  | succ n ih =>
    intro l i h H1 H2
    rw [downM]
    split
    · rename_i hk
      obtain ⟨hk, hb⟩ := hk
      have hor := kid_or l i
      have hi : i < l.length := by omega
      obtain ⟨c, hc⟩ : ∃ c, kid l i = c := ⟨_, rfl⟩
      have hmin : ∀ j (hj : j < l.length), (j = 2 * i + 1 ∨ j = 2 * i + 2) → hle (l[c]'(by rw [← hc]; exact hk)) l[j] := fun j hj h => by
        have := kid_min (l := l) (i := i) (j := j) hk hj h
        simpa only [hc] using this
      have hkc : c < l.length := by rw [← hc]; exact hk
      rw [hc] at hb hor ⊢
      rw [befAt_eq hi hkc] at hb
      have hci := hle_of hb
      refine ih _ _ (by rw [swpH_len]; omega) (fun j hj hj0 hjp => ?_) fun j hj hc0 hj0 hjp => ?_
      · have hj' : j < l.length := by rw [swpH_len] at hj; exact hj
        rw [swpH_at hi hkc, swpH_at hi hkc]
        rw [if_neg hjp]
        by_cases e1 : (j - 1) / 2 = i
        · rw [if_pos e1]
          by_cases e2 : j = c
          · rw [if_pos e2]
            exact hci
          · rw [if_neg e2, if_neg (by omega)]
            exact hmin j hj' (by omega)
        · rw [if_neg e1, if_neg (by omega)]
          by_cases e2 : j = i
          · subst e2
            rw [if_pos rfl]
            exact H2 c hkc hj0 (by omega) (by omega)
          · rw [if_neg e2]
            exact H1 j hj' hj0 e1
      · have hj' : j < l.length := by rw [swpH_len] at hj; exact hj
        rw [swpH_at hi hkc, swpH_at hi hkc]
        rw [if_neg (show ¬ (c - 1) / 2 = c by omega), if_pos (show (c - 1) / 2 = i by omega), if_neg (show ¬ j = c by omega), if_neg (show ¬ j = i by omega)]
        have := H1 j hj' hj0 (by omega)
        simp only [hjp] at this
        exact this
    · exact stop l i ‹_› H1
theorem put_perm (l : List (HI α)) (x : HI α) : (putM l x).Perm (x :: l) := (up_perm _ _).trans List.perm_append_comm
theorem put_heap {l : List (HI α)} (h : Hp l) (x : HI α) : Hp (putM l x) := by
  refine up_heap _ _ (by simp) (fun j hj hj0 hjn => ?_) fun j hj h1 h2 h3 => ?_
  · have hj' : j < l.length := by simp at hj; omega
    rw [List.getElem_append_left hj', List.getElem_append_left (by omega)]
    exact h j hj' hj0
  · simp at hj
    omega
theorem rest_eq {l : List (HI α)} (h : 0 < l.length) : restM l = downM ((l.set 0 (l[l.length - 1]'(by omega))).take (l.length - 1)) 0 := by
  unfold restM
  rw [List.getElem?_eq_getElem (by omega)]
theorem rest_perm {l : List (HI α)} (h : 0 < l.length) : l.Perm (l[0] :: restM l) := by
  rw [rest_eq h]
  have hd := down_perm _ ((l.set 0 (l[l.length - 1]'(by omega))).take (l.length - 1)) 0 (Nat.le_refl _)
  refine List.Perm.trans ?_ (List.Perm.cons _ hd.symm)
  match l, h with
  | x :: r, _ =>
    by_cases hr : r = []
    · subst hr; simp
    · obtain ⟨y, r', e⟩ : ∃ y r', r = r' ++ [y] := ⟨r.getLast hr, r.dropLast, (List.dropLast_concat_getLast hr).symm⟩
      subst e
      have e1 : (x :: (r' ++ [y])).length - 1 = (y :: r').length := by simp
      have e2 : (x :: (r' ++ [y]))[(x :: (r' ++ [y])).length - 1]'(by simp) = y := by simp
      rw [e2, List.set_cons_zero, e1, show y :: (r' ++ [y]) = (y :: r') ++ [y] by simp, List.take_left']
      · exact List.Perm.cons _ List.perm_append_comm
      · rfl
theorem rest_len {l : List (HI α)} (h : 0 < l.length) : (restM l).length = l.length - 1 := by
  have := (rest_perm h).length_eq
  rw [List.length_cons] at this
  omega
theorem rest_heap {l : List (HI α)} (h : 0 < l.length) (hp : Hp l) : Hp (restM l) := by
  rw [rest_eq h]
  refine down_heap _ _ 0 (Nat.le_refl _) (fun j hj hj0 hjp => ?_) fun j hj h1 => absurd h1 (Nat.lt_irrefl _)
  have hj' : j < l.length - 1 := by rw [List.length_take, List.length_set] at hj; omega
  rw [List.getElem_take, List.getElem_take, List.getElem_set_ne (by omega), List.getElem_set_ne (by omega)]
  exact hp j (by omega) hj0
theorem first_min {l : List (HI α)} (hp : Hp l) : ∀ j (hj : j < l.length), hle (l[0]'(by omega)) l[j] := by
  intro j
  induction j using Nat.strongRecOn with
  | _ j ih =>
    intro hj
    by_cases h0 : j = 0
    · subst h0; exact .refl _
    · exact (ih ((j - 1) / 2) (by omega) (by omega)).trans (hp j hj (by omega))
/-- All in the order in which they are taken. -/
def drain : Nat → List (HI α) → List (HI α)
  | 0, _ => []
  | n + 1, l => match l[0]? with
    | some x => x :: drain n (restM l)
    | none => []
theorem drain_spec : ∀ (n : Nat) {l : List (HI α)}, l.length = n → Hp l → (drain n l).Perm l ∧ (drain n l).Pairwise hle
  | 0, l, hn, hp => by
    have := List.eq_nil_of_length_eq_zero hn
    subst this
    exact ⟨.refl _, .nil⟩
  | n + 1, l, hn, hp => by
    have h0 : 0 < l.length := by omega
    obtain ⟨i1, i2⟩ := drain_spec n (l := restM l) (by rw [rest_len h0]; omega) (rest_heap h0 hp)
    have e : drain (n + 1) l = l[0] :: drain n (restM l) := by
      rw [drain, List.getElem?_eq_getElem h0]
    rw [e]
    refine ⟨(List.Perm.cons _ i1).trans (rest_perm h0).symm, List.pairwise_cons.2 ⟨fun y hy => ?_, i2⟩⟩
    have hy : y ∈ l := (rest_perm h0).mem_iff.2 (List.mem_cons_of_mem _ (i1.mem_iff.1 hy))
    obtain ⟨j, hj, rfl⟩ := List.getElem_of_mem hy
    exact first_min hp j hj
/-- Some put in, one after the other. -/
def puts (l : List (HI α)) (xs : List (HI α)) : List (HI α) := xs.foldl putM l
theorem puts_spec : ∀ (xs : List (HI α)) {l : List (HI α)}, Hp l → Hp (puts l xs) ∧ (puts l xs).Perm (xs ++ l)
  | [], l, h => ⟨h, .refl _⟩
  | x :: xs, l, h => by
    obtain ⟨h1, h2⟩ := puts_spec xs (put_heap h x)
    exact ⟨h1, h2.trans ((List.Perm.append_left _ (put_perm l x)).trans (List.perm_middle))⟩
theorem puts_take {xs : List (HI α)} {i : Nat} (h : i < xs.length) (l : List (HI α)) : puts l (xs.take (i + 1)) = putM (puts l (xs.take i)) xs[i] := by
  unfold puts
  rw [List.take_succ_eq_append_getElem h, List.foldl_append]
  rfl
theorem puts_len (xs : List (HI α)) : (puts ([] : List (HI α)) xs).length = xs.length := by
  have := (puts_spec xs (l := []) (fun j hj => by simp at hj)).2.length_eq
  simpa using this
end
end Go.Proofs.Ytanokoededdceaa

namespace Go.Proofs.Ytanokoededdceaa
set_option linter.unusedVariables false
def hiI (x : HI Int) : AV := .agg [iA x.v, iA x.rank, iA x.came]
instance {x : HI Int} : Frz (hiI x) (hiI x) := ⟨rfl⟩
theorem hiI_lds (S : List Slot) : ∀ l : List (HI Int), Lds S (l.map hiI) (l.map hiI)
  | [] => .nil
  | x :: l => .cons (show Ld S (hiI x) (hiI x) from .frz (a := hiI x)) (hiI_lds S l)
theorem hiI_at {l : List (HI Int)} {i : Nat} (hi : i < l.length) : (l.map hiI)[i]? = some (hiI l[i]) := by rw [List.getElem?_map, List.getElem?_eq_getElem hi]; rfl
theorem hiI_swp {l : List (HI Int)} {i k : Nat} (hi : i < l.length) (hk : k < l.length) : ((l.map hiI).set i (hiI l[k])).set k (hiI l[i]) = (swpH l i k).map hiI := by rw [swpH_eq hi hk, List.map_set, List.map_set]
theorem hiI_set2 {l : List (HI Int)} {i j : Nat} (hj : j < l.length) (x : HI Int) : ∃ y, ((l.map hiI).set i (hiI x))[j]? = some (hiI y) := by
  by_cases e : i = j
  · subst e; exact ⟨x, List.getElem?_set_self (by simpa using hj)⟩
  · exact ⟨l[j], by rw [List.getElem?_set_ne e]; exact hiI_at hj⟩
theorem beforeI_ps (l : List (HI Int)) (c : Int) (i k : Nat) (hi : i < l.length) (hk : k < l.length) : PS Try.prog 53 [.fp [.lst false 120 3 (l.map hiI), iA c], iA i, iA k] (bA (befAt l i k)) := by
  have h1 := hiI_at hi
  have h2 := hiI_at hk
  rw [befAt_eq hi hk]
  obtain ⟨⟨av, ar, ac⟩, ha⟩ : ∃ a, l[i] = a := ⟨_, rfl⟩
  obtain ⟨⟨bv, br, bc⟩, hb⟩ : ∃ a, l[k] = a := ⟨_, rfl⟩
  rw [ha] at h1 ⊢
  rw [hb] at h2 ⊢
  refine Spec.of (nt := 38) (res := [.tmp 6]) Try.func53 rfl (by kernel_rfl) rfl rfl rfl fun Sf => ?_
  (repeat refine WF ?_); refine AWP.region ?_; (repeat (first | refine WO ?_ | refine All.i fun X => ?_ | refine AllY.i fun Y => ?_)); refine AOps.nil ?_; (repeat refine WN ?_)
  (repeat first | refine AOps.nil ?_ | refine WF ?_)
  refine AWP.rs fun A => AWP.rs fun B => ?_
  (repeat refine WF ?_); refine AWP.region_run (by kernel_rfl) (by kernel_rfl) ?_; (repeat (first | refine RK ?_ | refine RGo.nil (by kernel_rfl) ?_))
  (repeat (first | refine WK ?_ | refine All.i fun X => ?_ | refine AllY.i fun Y => ?_))
  refine AWP.cond rfl (fun hc => ?_) (fun hc => ?_)
  · have hc : ar ≠ br := by simpa using hc
    (repeat (first | refine WK ?_ | refine All.i fun X => ?_ | refine AllY.i fun Y => ?_))
    (refine AWP.ret ?_; (repeat (first | refine inB_r ?_ | refine andThen_r ?_)); refine retQ_r ?_); refine Ends.ps ?_
    unfold bef
    rw [if_pos hc]
  · have hc : ar = br := by simpa using hc
    (repeat (first | refine WK ?_ | refine All.i fun X => ?_ | refine AllY.i fun Y => ?_))
    (refine AWP.ret ?_; (repeat (first | refine inB_r ?_ | refine andThen_r ?_)); refine retQ_r ?_); refine Ends.ps ?_
    unfold bef
    rw [if_neg (by simp [hc])]
theorem beforeI_sp (Q H n : Nat) (l : List (HI Int)) (c : Int) (i k : Nat) (hn : n = l.length) (hi : i < l.length) (hk : k < l.length) : Spec Try.prog 53 [.ptr Q 0 0, iA i, iA k] [(H, .row 120 3 (l.map hiI)), (Q, .row 91 2 [.agg [.sl H 0 n, iA c]])] fun r S' => r = bA (befAt l i k) ∧ S' = [(H, .row 120 3 (l.map hiI)), (Q, .row 91 2 [.agg [.sl H 0 n, iA c]])] := by
  subst hn
  refine PS.lend (beforeI_ps l c i k hi hk) rfl (.cons (.ptr (b := .agg [.lst false 120 3 (l.map hiI), iA c]) (.next .here) (.agg (.cons (.sl .here (by simp) ?_) (.cons (.frz (a := iA c)) .nil))) rfl) (.cons (.frz (a := iA i)) (.cons (.frz (a := iA k)) .nil)))
  rw [List.drop_zero, List.take_of_length_le (by simp)]
  exact hiI_lds _ l
set_option maxHeartbeats 1000000 in
theorem putI_sp (Q H n : Nat) (l : List (HI Int)) (c : Nat) (v : Int) (rank : Int) (hn : n = l.length) (hl : l.length < 4096) (hc : c ≤ 1099511627776) : Spec Try.prog 31 [.ptr Q 0 0, iA v, iA rank] [(H, .row 120 3 (l.map hiI)), (Q, .row 91 2 [.agg [.sl H 0 n, iA c]])] fun r S' => ∃ K : Nat, r = iA 0 ∧ S' = [(K, .row 120 3 ((putM l ⟨v, rank, c⟩).map hiI)), (Q, .row 91 2 [.agg [.sl K 0 (n + 1), iA ((c + 1 : Nat) : Int)]])] := by
  subst hn
  have him : (l.map hiI).length = l.length := List.length_map _
  refine Spec.of (nt := 86) (res := [.tmp 6]) Try.func31 rfl (by kernel_rfl) rfl rfl rfl fun Sf => ?_
  (repeat (first | refine WK ?_ | refine All.i fun X => ?_ | refine AllY.i fun Y => ?_))
  refine AWP.cond_f rfl (decide_eq_false (by omega)) ?_
  (repeat first | refine AOps.nil ?_ | refine WF ?_)
  refine AWP.rs fun K => ?_
  (repeat refine WF ?_); refine AWP.region_run (by kernel_rfl) (by kernel_rfl) ?_; (repeat (first | (refine RGo.gN ?_; first | (refine RGo.g_lit ?_; refine RGo.goL (hiI ⟨v, rank, c⟩) ?_)) | (refine RGo.gQ ?_; first | (refine RGo.g_lit ?_; refine RGo.goL (hiI ⟨v, rank, c⟩) ?_)) | refine RK ?_ | refine RGo.nil (by kernel_rfl) ?_))
  (repeat first | refine AOps.nil ?_ | refine WF ?_)
  (repeat refine WF ?_); refine AWP.region ?_; (repeat (first | (refine AOps.gN ?_; first | refine AOps.go (h := W.addE ((c + 1 : Nat) : Int) (by omega) (by omega) rfl rfl) (k := ?_)) | refine WO ?_ | refine All.i fun X => ?_ | refine AllY.i fun Y => ?_)); refine AOps.nil ?_; (repeat refine WN ?_)
  (repeat first | refine AOps.nil ?_ | refine WF ?_)
  (repeat refine WF ?_); refine AWP.region ?_; (repeat (first | (refine AOps.gN ?_; first | refine AOps.go (h := W.subE (l.length : Int) (by simp) (by omega) rfl rfl) (k := ?_)) | refine WO ?_ | refine All.i fun X => ?_ | refine AllY.i fun Y => ?_)); refine AOps.nil ?_; (repeat refine WN ?_)
  (repeat first | refine AOps.nil ?_ | refine WF ?_)
  have hma : l.map hiI ++ [hiI ⟨v, rank, c⟩] = (l ++ [(⟨v, rank, c⟩ : HI Int)]).map hiI := by simp
  rw [hma]
  have hpm : putM l ⟨v, rank, c⟩ = upM (l ++ [⟨v, rank, c⟩]) l.length := rfl
  refine AWP.lp2 (fun (i : Nat) (M : List (HI Int)) => ⟨[(0, .ptr Q 0 0), (7, iA i)], (K, .row 120 3 (M.map hiI)) :: (Q, .row 91 2 [.agg [.sl K 0 (l.length + 1), iA ((c + 1 : Nat) : Int)]]) :: Sf⟩) (fun i M => M.length = l.length + 1 ∧ i < l.length + 1 ∧ upM M i = putM l ⟨v, rank, c⟩) (fun i _ => i) l.length (l ++ [⟨v, rank, c⟩]) ⟨by simp, by omega, hpm.symm⟩ ?_
  · rintro i M ⟨hM, hi, hu⟩
    clear hpm him
    rcases Nat.eq_zero_or_pos i with h0 | h0
    · subst h0
      (repeat (first | refine WK ?_ | refine All.i fun X => ?_ | refine AllY.i fun Y => ?_))
      refine AWP.cond_f rfl rfl ?_
      (repeat (first | refine WK ?_ | refine All.i fun X => ?_ | refine AllY.i fun Y => ?_))
      (refine AWP.ret ?_; (repeat (first | refine inB_r ?_ | refine andThen_r ?_)); refine retQ_r ?_)
      have hz : upM M 0 = M := by rw [upM, if_neg (by simp)]
      rw [hz] at hu
      rw [← hu]
      exact Ends.sp [iA 0] [(K, _), (Q, _)] ⟨K, rfl, rfl⟩
    · obtain ⟨j, rfl⟩ : ∃ j, i = j + 1 := ⟨i - 1, by omega⟩
      have hp : j / 2 < M.length := by omega
      have hi' : j + 1 < M.length := by omega
      have hbf := beforeI_sp Q K (l.length + 1) M ((c + 1 : Nat) : Int) (j + 1) (j / 2) (by omega) hi' hp
      have hd : decide (((j + 1 : Nat) : Int) > 0) = true := decide_eq_true (by omega)
      have hd2 : decide ((0 : Int) < ((j + 1 : Nat) : Int)) = true := decide_eq_true (by omega)
      (repeat (first | (refine AOps.gN ?_; first | (refine AOps.g_callf ?_; first | refine AOps.z3 (h := hbf) (hT := .fz) (k := ?_)) | refine AOps.go (h := W.subE (j : Int) (by omega) (by omega) rfl rfl) (k := ?_) | refine AOps.go (h := W.quoN j 2 (j / 2) rfl rfl (by omega) rfl (by omega) rfl rfl) (k := ?_)) | refine WK ?_ | refine All.i fun X => ?_ | refine AllY.i fun Y => ?_))
      have hpa : (j + 1 - 1) / 2 = j / 2 := rfl
      rw [upM] at hu
      simp only [hpa] at hu
      cases hq : befAt M (j + 1) (j / 2) with
      | false =>
        rw [if_neg (by rw [hq]; simp)] at hu
        rw [← hu]
        refine AWP.cond_f rfl rfl ?_
        (repeat (first | refine WK ?_ | refine All.i fun X => ?_ | refine AllY.i fun Y => ?_))
        (refine AWP.ret ?_; (repeat (first | refine inB_r ?_ | refine andThen_r ?_)); refine retQ_r ?_)
        exact Ends.sp [iA 0] [(K, _), (Q, _)] ⟨K, rfl, rfl⟩
      | true =>
        rw [if_pos ⟨h0, hq⟩] at hu
        refine AWP.cond_t rfl rfl ?_
        have e1 := hiI_at hi'
        have e2 := hiI_at hp
        obtain ⟨y, e3⟩ := hiI_set2 (i := j + 1) hp M[j / 2]
        (repeat first | refine AOps.nil ?_ | refine WF ?_)
        (repeat refine WF ?_); refine AWP.region_run (by kernel_rfl) (by kernel_rfl) ?_; (repeat (first | (refine RGo.gN ?_; first | refine RGo.go (h := W.subE (j : Int) (by omega) (by omega) rfl rfl) (k := ?_) | refine RGo.go (h := W.quoN j 2 (j / 2) rfl rfl (by omega) rfl (by omega) rfl rfl) (k := ?_)) | (refine RGo.gQ ?_; first | refine RGo.go (h := W.subE (j : Int) (by omega) (by omega) rfl rfl) (k := ?_) | refine RGo.go (h := W.quoN j 2 (j / 2) rfl rfl (by omega) rfl (by omega) rfl rfl) (k := ?_)) | refine RK ?_ | refine RGo.nil (by kernel_rfl) ?_))
        (repeat first | refine AOps.nil ?_ | refine WF ?_)
        refine AWP.as [(0, .ptr Q 0 0), (7, iA ((j + 1 : Nat) : Int))] ((K, .row 120 3 (((M.map hiI).set (j + 1) (hiI M[j / 2])).set (j / 2) (hiI M[j + 1]))) :: (Q, .row 91 2 [.agg [.sl K 0 (l.length + 1), iA ((c + 1 : Nat) : Int)]]) :: Sf) ?_
        rw [hiI_swp hi' hp]
        (repeat (first | (refine AOps.gN ?_; first | refine AOps.go (h := W.subE (j : Int) (by omega) (by omega) rfl rfl) (k := ?_) | refine AOps.go (h := W.quoN j 2 (j / 2) rfl rfl (by omega) rfl (by omega) rfl rfl) (k := ?_)) | refine WK ?_ | refine All.i fun X => ?_ | refine AllY.i fun Y => ?_))
        refine lp_next2 (j / 2) (swpH M (j + 1) (j / 2)) ⟨by rw [swpH_len]; exact hM, by omega, hu⟩
theorem lenI_sp (Q H n : Nat) (c : Int) : Spec Try.prog 32 [.ptr Q 0 0] [(Q, .row 91 2 [.agg [.sl H 0 n, iA c]])] fun r S' => r = iA n ∧ S' = [(Q, .row 91 2 [.agg [.sl H 0 n, iA c]])] := by
  refine Spec.of (nt := 8) (res := [.tmp 2]) Try.func32 rfl (by kernel_rfl) rfl rfl rfl fun Sf => ?_
  (repeat (first | refine WK ?_ | refine All.i fun X => ?_ | refine AllY.i fun Y => ?_))
  (refine AWP.ret ?_; (repeat (first | refine inB_r ?_ | refine andThen_r ?_)); refine retQ_r ?_)
  exact Ends.sp [iA n] [(Q, _)] ⟨rfl, rfl⟩
theorem hiI_cut (l : List (HI Int)) (m : Nat) (a z : HI Int) : ((((l.map hiI).set 0 (hiI a)).set m (hiI z)).take m) = ((l.set 0 a).take m).map hiI := by
  rw [List.take_set_of_le (Nat.le_refl _), List.map_take, List.map_set]
set_option maxHeartbeats 2000000 in
theorem takeI_sp (Q H n : Nat) (l : List (HI Int)) (c : Int) (v : Int) (rank came : Int) (hn : n = l.length) (hl : l.length ≤ 4096) (hx : l[0]? = some ⟨v, rank, came⟩) : Spec Try.prog 33 [.ptr Q 0 0] [(H, .row 120 3 (l.map hiI)), (Q, .row 91 2 [.agg [.sl H 0 n, iA c]])] fun r S' => r = .tup [iA v, iA rank, iA 0] ∧ S' = [(H, .row 120 3 ((restM l).map hiI)), (Q, .row 91 2 [.agg [.sl H 0 (n - 1), iA c]])] := by
  subst hn
  obtain ⟨h0, hx0⟩ := List.getElem?_eq_some_iff.1 hx
  obtain ⟨m, hm⟩ : ∃ m, l.length = m + 1 := ⟨l.length - 1, by omega⟩
  have hr := rest_eq h0
  have hml : m < l.length := by omega
  have elm : l[l.length - 1]'(by omega) = l[m] := by congr 1; omega
  rw [elm] at hr
  have e0 := hiI_at h0
  rw [hx0] at e0
  have em := hiI_at hml
  obtain ⟨z, hz⟩ : ∃ z, hiI ⟨0, 0, 0⟩ = z := ⟨_, rfl⟩
  obtain ⟨y, ey⟩ := hiI_set2 (i := 0) hml l[m]
  have hlm : l.length - 1 = m := by omega
  rw [hlm] at hr ⊢
  rw [hm]
  refine Spec.of (nt := 109) (res := [.tmp 2, .tmp 3, .tmp 4]) Try.func33 rfl (by kernel_rfl) rfl rfl rfl fun Sf => ?_
  (repeat refine WF ?_); refine AWP.region ?_; (repeat (first | refine WO ?_ | refine All.i fun R2 => ?_ | refine AllY.i fun Y => ?_)); refine AOps.nil ?_; (repeat refine WN ?_)
  (repeat first | refine AOps.nil ?_ | refine WF ?_)
  (repeat refine WF ?_); refine AWP.region ?_; (repeat (first | refine WO ?_ | refine All.i fun R5 => ?_ | refine AllY.i fun Y => ?_)); refine AOps.nil ?_; (repeat refine WN ?_)
  (repeat first | refine AOps.nil ?_ | refine WF ?_)
  (repeat refine WF ?_); refine AWP.region ?_; (repeat (first | (refine AOps.gN ?_; first | refine AOps.go (h := W.subE (m : Int) (by omega) (by omega) rfl rfl) (k := ?_)) | refine WO ?_ | refine All.i fun X => ?_ | refine AllY.i fun Y => ?_)); refine AOps.nil ?_; (repeat refine WN ?_)
  (repeat (first | refine WK ?_ | refine All.i fun X => ?_ | refine AllY.i fun Y => ?_))
  refine AWP.cond_f rfl (decide_eq_false (by omega)) ?_
  (repeat first | refine AOps.nil ?_ | refine WF ?_)
  (repeat refine WF ?_); refine AWP.region ?_; (repeat (first | refine WO ?_ | refine All.i fun B => ?_ | refine AllY.i fun Y => ?_)); refine AOps.nil ?_; (repeat refine WN ?_)
  (repeat first | refine AOps.nil ?_ | refine WF ?_)
  (repeat refine WF ?_); refine AWP.region_run (by kernel_rfl) (by kernel_rfl) ?_; (repeat (first | refine RK ?_ | refine RGo.nil (by kernel_rfl) ?_))
  (repeat first | refine AOps.nil ?_ | refine WF ?_)
  (repeat refine WF ?_); refine AWP.region ?_; (repeat (first | refine WO ?_ | refine All.i fun X => ?_ | refine AllY.i fun Y => ?_)); refine AOps.nil ?_; (repeat refine WN ?_)
  (repeat first | refine AOps.nil ?_ | refine WF ?_)
  (repeat refine WF ?_); refine AWP.region ?_; (repeat (first | (refine AOps.gN ?_; first | refine AOps.p (W.hi (a := m) rfl rfl (by exact At.f) rfl (by omega)) rfl ?_) | refine WO ?_ | refine All.i fun X => ?_ | refine AllY.i fun Y => ?_)); refine AOps.nil ?_; (repeat refine WN ?_)
  refine AWP.as [(0, .ptr Q 0 0), (6, iA m), (7, .ptr B 0 0)] ((B, .row 120 3 [hiI ⟨v, rank, came⟩]) :: (H, .row 120 3 (((l.map hiI).set 0 (hiI l[m])).set m (hiI ⟨0, 0, 0⟩))) :: (Q, .row 91 2 [.agg [.sl H 0 m, iA c]]) :: Sf) ?_
  refine AWP.shrink (X := H) m ?_ (by exact At.f)
  rw [hiI_cut]
  have hL0 : ((l.set 0 l[m]).take m).length = m := by rw [List.length_take, List.length_set]; omega
  obtain ⟨L0, hL⟩ : ∃ L0, (l.set 0 l[m]).take m = L0 := ⟨_, rfl⟩
  rw [hL] at hL0 hr ⊢
  (repeat (first | refine WK ?_ | refine All.i fun X => ?_ | refine AllY.i fun Y => ?_))
  refine AWP.lp2 (fun (i : Nat) (M : List (HI Int)) => ⟨[(0, .ptr Q 0 0), (6, iA m), (7, .ptr B 0 0), (8, iA i)], (B, .row 120 3 [hiI ⟨v, rank, came⟩]) :: (H, .row 120 3 (M.map hiI)) :: (Q, .row 91 2 [.agg [.sl H 0 m, iA c]]) :: Sf⟩) (fun i M => M.length = m ∧ i ≤ m ∧ downM M i = restM l) (fun i _ => m - i) 0 L0 ⟨hL0, Nat.zero_le _, hr.symm⟩ ?_
  clear e0 em ey hr hL hL0 elm hx hx0 hz
  rintro i M ⟨hM, hi, hu⟩
  have hi6 : i ≤ 4096 := by omega
  (repeat refine WF ?_); refine AWP.region ?_; (repeat (first | (refine AOps.gN ?_; first | refine AOps.go (h := W.mulE ((2 * i : Nat) : Int) (by omega) (by omega) rfl rfl) (k := ?_) | refine AOps.go (h := W.addE ((2 * i + 1 : Nat) : Int) (by omega) (by omega) rfl rfl) (k := ?_)) | refine WO ?_ | refine All.i fun X => ?_ | refine AllY.i fun Y => ?_)); refine AOps.nil ?_; (repeat refine WN ?_)
  (repeat first | refine AOps.nil ?_ | refine WF ?_)
  by_cases h2 : 2 * i + 2 < m
  · have hd : decide (((2 * i + 2 : Nat) : Int) < (m : Int)) = true := decide_eq_true (by omega)
    have hb1 := beforeI_sp Q H m M c (2 * i + 2) (2 * i + 1) hM.symm (by omega) (by omega)
    (repeat refine WF ?_); refine AWP.region ?_; (repeat (first | (refine AOps.gN ?_; first | (refine AOps.g_callf ?_; first | refine AOps.z3 (h := hb1) (hT := .fz) (k := ?_)) | refine AOps.go (h := W.addE ((2 * i + 2 : Nat) : Int) (by omega) (by omega) rfl rfl) (k := ?_)) | refine WO ?_ | refine All.i fun X => ?_ | refine AllY.i fun Y => ?_)); refine AOps.nil ?_; (repeat refine WN ?_)
    cases hq : befAt M (2 * i + 2) (2 * i + 1) with
    | true =>
      have hk : kid M i = 2 * i + 2 := by unfold kid; rw [if_pos ⟨by omega, hq⟩]
      refine AWP.cond_t rfl rfl ?_
      (repeat first | refine AOps.nil ?_ | refine WF ?_)
      (repeat refine WF ?_); refine AWP.region ?_; (repeat (first | (refine AOps.gN ?_; first | refine AOps.go (h := W.addE ((2 * i + 2 : Nat) : Int) (by omega) (by omega) rfl rfl) (k := ?_)) | refine WO ?_ | refine All.i fun X => ?_ | refine AllY.i fun Y => ?_)); refine AOps.nil ?_; (repeat refine WN ?_)
      (repeat first | refine AOps.nil ?_ | refine WF ?_)
      refine AWP.as [(0, .ptr Q 0 0), (6, iA m), (7, .ptr B 0 0), (8, iA i), (9, iA ((2 * i + 2 : Nat) : Int))] ((B, .row 120 3 [hiI ⟨v, rank, came⟩]) :: (H, .row 120 3 (M.map hiI)) :: (Q, .row 91 2 [.agg [.sl H 0 m, iA c]]) :: Sf) ?_
      rw [downM, hk] at hu
      obtain ⟨kk, hkk⟩ : ∃ kk, 2 * i + 2 = kk := ⟨_, rfl⟩
      have hik : i < kk := by omega
      rw [hkk] at hu ⊢
      clear hk
      by_cases hkm : kk < m
      · have he : decide ((kk : Int) ≥ (m : Int)) = false := decide_eq_false (by omega)
        have he2 : decide ((m : Int) ≤ (kk : Int)) = false := decide_eq_false (by omega)
        have hb2 := beforeI_sp Q H m M c i kk hM.symm (by omega) (by omega)
        (repeat refine WF ?_); refine AWP.region ?_; (repeat (first | (refine AOps.gN ?_; first | (refine AOps.g_callf ?_; first | refine AOps.z3 (h := hb2) (hT := .fz) (k := ?_))) | refine WO ?_ | refine All.i fun X => ?_ | refine AllY.i fun Y => ?_)); refine AOps.nil ?_; (repeat refine WN ?_)
        cases hq2 : befAt M i kk with
        | true =>
          rw [if_neg (by rw [hq2]; simp)] at hu
          rw [← hu]
          refine AWP.cond_t rfl rfl ?_
          (repeat (first | refine WK ?_ | refine All.i fun X => ?_ | refine AllY.i fun Y => ?_))
          refine AWP.rs fun X0 => ?_
          (repeat refine WF ?_); refine AWP.region_run (by kernel_rfl) (by kernel_rfl) ?_; (repeat (first | refine RK ?_ | refine RGo.nil (by kernel_rfl) ?_))
          (refine AWP.ret ?_; (repeat (first | refine inB_r ?_ | refine andThen_r ?_)); refine retQ_r ?_)
          exact Ends.sp [iA v, iA rank, iA 0] [(H, _), (Q, _)] ⟨rfl, rfl⟩
        | false =>
          rw [if_pos ⟨by omega, hq2⟩] at hu
          refine AWP.cond_f rfl rfl ?_
          have f1 := hiI_at (show i < M.length by omega)
          have f2 := hiI_at (show kk < M.length by omega)
          obtain ⟨y, f3⟩ := hiI_set2 (i := i) (show kk < M.length by omega) M[kk]
          (repeat first | refine AOps.nil ?_ | refine WF ?_)
          (repeat refine WF ?_); refine AWP.region_run (by kernel_rfl) (by kernel_rfl) ?_; (repeat (first | refine RK ?_ | refine RGo.nil (by kernel_rfl) ?_))
          (repeat first | refine AOps.nil ?_ | refine WF ?_)
          refine AWP.as [(0, .ptr Q 0 0), (6, iA m), (7, .ptr B 0 0), (9, iA ((kk : Nat) : Int))] ((B, .row 120 3 [hiI ⟨v, rank, came⟩]) :: (H, .row 120 3 (((M.map hiI).set i (hiI M[kk])).set kk (hiI M[i]))) :: (Q, .row 91 2 [.agg [.sl H 0 m, iA c]]) :: Sf) ?_
          rw [hiI_swp (show i < M.length by omega) (show kk < M.length by omega)]
          (repeat (first | refine WK ?_ | refine All.i fun X => ?_ | refine AllY.i fun Y => ?_))
          refine lp_next2 kk (swpH M i kk) ⟨by rw [swpH_len]; exact hM, by omega, hu⟩
      · have he : decide ((kk : Int) ≥ (m : Int)) = true := decide_eq_true (by omega)
        have he2 : decide ((m : Int) ≤ (kk : Int)) = true := decide_eq_true (by omega)
        rw [if_neg fun h => hkm (by omega)] at hu
        rw [← hu]
        (repeat refine WF ?_); refine AWP.region ?_; (repeat (first | refine WO ?_ | refine All.i fun X => ?_ | refine AllY.i fun Y => ?_)); refine AOps.nil ?_; (repeat refine WN ?_)
        refine AWP.cond_t rfl (by first | rfl | assumption) ?_
        (repeat (first | refine WK ?_ | refine All.i fun X => ?_ | refine AllY.i fun Y => ?_))
        refine AWP.rs fun X0 => ?_
        (repeat refine WF ?_); refine AWP.region_run (by kernel_rfl) (by kernel_rfl) ?_; (repeat (first | refine RK ?_ | refine RGo.nil (by kernel_rfl) ?_))
        (refine AWP.ret ?_; (repeat (first | refine inB_r ?_ | refine andThen_r ?_)); refine retQ_r ?_)
        exact Ends.sp [iA v, iA rank, iA 0] [(H, _), (Q, _)] ⟨rfl, rfl⟩
    | false =>
      have hk : kid M i = 2 * i + 1 := by unfold kid; rw [if_neg (by rw [hq]; simp)]
      refine AWP.cond_f rfl rfl ?_
      (repeat first | refine AOps.nil ?_ | refine WF ?_)
      refine AWP.as [(0, .ptr Q 0 0), (6, iA m), (7, .ptr B 0 0), (8, iA i), (9, iA ((2 * i + 1 : Nat) : Int))] ((B, .row 120 3 [hiI ⟨v, rank, came⟩]) :: (H, .row 120 3 (M.map hiI)) :: (Q, .row 91 2 [.agg [.sl H 0 m, iA c]]) :: Sf) ?_
      rw [downM, hk] at hu
      obtain ⟨kk, hkk⟩ : ∃ kk, 2 * i + 1 = kk := ⟨_, rfl⟩
      have hik : i < kk := by omega
      rw [hkk] at hu ⊢
      clear hk
      by_cases hkm : kk < m
      · have he : decide ((kk : Int) ≥ (m : Int)) = false := decide_eq_false (by omega)
        have he2 : decide ((m : Int) ≤ (kk : Int)) = false := decide_eq_false (by omega)
        have hb2 := beforeI_sp Q H m M c i kk hM.symm (by omega) (by omega)
        (repeat refine WF ?_); refine AWP.region ?_; (repeat (first | (refine AOps.gN ?_; first | (refine AOps.g_callf ?_; first | refine AOps.z3 (h := hb2) (hT := .fz) (k := ?_))) | refine WO ?_ | refine All.i fun X => ?_ | refine AllY.i fun Y => ?_)); refine AOps.nil ?_; (repeat refine WN ?_)
        cases hq2 : befAt M i kk with
        | true =>
          rw [if_neg (by rw [hq2]; simp)] at hu
          rw [← hu]
          refine AWP.cond_t rfl rfl ?_
          (repeat (first | refine WK ?_ | refine All.i fun X => ?_ | refine AllY.i fun Y => ?_))
          refine AWP.rs fun X0 => ?_
          (repeat refine WF ?_); refine AWP.region_run (by kernel_rfl) (by kernel_rfl) ?_; (repeat (first | refine RK ?_ | refine RGo.nil (by kernel_rfl) ?_))
          (refine AWP.ret ?_; (repeat (first | refine inB_r ?_ | refine andThen_r ?_)); refine retQ_r ?_)
          exact Ends.sp [iA v, iA rank, iA 0] [(H, _), (Q, _)] ⟨rfl, rfl⟩
        | false =>
          rw [if_pos ⟨by omega, hq2⟩] at hu
          refine AWP.cond_f rfl rfl ?_
          have f1 := hiI_at (show i < M.length by omega)
          have f2 := hiI_at (show kk < M.length by omega)
          obtain ⟨y, f3⟩ := hiI_set2 (i := i) (show kk < M.length by omega) M[kk]
          (repeat first | refine AOps.nil ?_ | refine WF ?_)
          (repeat refine WF ?_); refine AWP.region_run (by kernel_rfl) (by kernel_rfl) ?_; (repeat (first | refine RK ?_ | refine RGo.nil (by kernel_rfl) ?_))
          (repeat first | refine AOps.nil ?_ | refine WF ?_)
          refine AWP.as [(0, .ptr Q 0 0), (6, iA m), (7, .ptr B 0 0), (9, iA ((kk : Nat) : Int))] ((B, .row 120 3 [hiI ⟨v, rank, came⟩]) :: (H, .row 120 3 (((M.map hiI).set i (hiI M[kk])).set kk (hiI M[i]))) :: (Q, .row 91 2 [.agg [.sl H 0 m, iA c]]) :: Sf) ?_
          rw [hiI_swp (show i < M.length by omega) (show kk < M.length by omega)]
          (repeat (first | refine WK ?_ | refine All.i fun X => ?_ | refine AllY.i fun Y => ?_))
          refine lp_next2 kk (swpH M i kk) ⟨by rw [swpH_len]; exact hM, by omega, hu⟩
      · have he : decide ((kk : Int) ≥ (m : Int)) = true := decide_eq_true (by omega)
        have he2 : decide ((m : Int) ≤ (kk : Int)) = true := decide_eq_true (by omega)
        rw [if_neg fun h => hkm (by omega)] at hu
        rw [← hu]
        (repeat refine WF ?_); refine AWP.region ?_; (repeat (first | refine WO ?_ | refine All.i fun X => ?_ | refine AllY.i fun Y => ?_)); refine AOps.nil ?_; (repeat refine WN ?_)
        refine AWP.cond_t rfl (by first | rfl | assumption) ?_
        (repeat (first | refine WK ?_ | refine All.i fun X => ?_ | refine AllY.i fun Y => ?_))
        refine AWP.rs fun X0 => ?_
        (repeat refine WF ?_); refine AWP.region_run (by kernel_rfl) (by kernel_rfl) ?_; (repeat (first | refine RK ?_ | refine RGo.nil (by kernel_rfl) ?_))
        (refine AWP.ret ?_; (repeat (first | refine inB_r ?_ | refine andThen_r ?_)); refine retQ_r ?_)
        exact Ends.sp [iA v, iA rank, iA 0] [(H, _), (Q, _)] ⟨rfl, rfl⟩
  · have hd : decide (((2 * i + 2 : Nat) : Int) < (m : Int)) = false := decide_eq_false (by omega)
    have hk : kid M i = 2 * i + 1 := by unfold kid; rw [if_neg fun h => h2 (by omega)]
    (repeat refine WF ?_); refine AWP.region ?_; (repeat (first | (refine AOps.gN ?_; first | refine AOps.go (h := W.addE ((2 * i + 2 : Nat) : Int) (by omega) (by omega) rfl rfl) (k := ?_)) | refine WO ?_ | refine All.i fun X => ?_ | refine AllY.i fun Y => ?_)); refine AOps.nil ?_; (repeat refine WN ?_)
    refine AWP.cond_f rfl (by first | rfl | assumption) ?_
    (repeat first | refine AOps.nil ?_ | refine WF ?_)
    refine AWP.as [(0, .ptr Q 0 0), (6, iA m), (7, .ptr B 0 0), (8, iA i), (9, iA ((2 * i + 1 : Nat) : Int))] ((B, .row 120 3 [hiI ⟨v, rank, came⟩]) :: (H, .row 120 3 (M.map hiI)) :: (Q, .row 91 2 [.agg [.sl H 0 m, iA c]]) :: Sf) ?_
    rw [downM, hk] at hu
    obtain ⟨kk, hkk⟩ : ∃ kk, 2 * i + 1 = kk := ⟨_, rfl⟩
    have hik : i < kk := by omega
    rw [hkk] at hu ⊢
    clear hk
    by_cases hkm : kk < m
    · have he : decide ((kk : Int) ≥ (m : Int)) = false := decide_eq_false (by omega)
      have he2 : decide ((m : Int) ≤ (kk : Int)) = false := decide_eq_false (by omega)
      have hb2 := beforeI_sp Q H m M c i kk hM.symm (by omega) (by omega)
      (repeat refine WF ?_); refine AWP.region ?_; (repeat (first | (refine AOps.gN ?_; first | (refine AOps.g_callf ?_; first | refine AOps.z3 (h := hb2) (hT := .fz) (k := ?_))) | refine WO ?_ | refine All.i fun X => ?_ | refine AllY.i fun Y => ?_)); refine AOps.nil ?_; (repeat refine WN ?_)
      cases hq2 : befAt M i kk with
      | true =>
        rw [if_neg (by rw [hq2]; simp)] at hu
        rw [← hu]
        refine AWP.cond_t rfl rfl ?_
        (repeat (first | refine WK ?_ | refine All.i fun X => ?_ | refine AllY.i fun Y => ?_))
        refine AWP.rs fun X0 => ?_
        (repeat refine WF ?_); refine AWP.region_run (by kernel_rfl) (by kernel_rfl) ?_; (repeat (first | refine RK ?_ | refine RGo.nil (by kernel_rfl) ?_))
        (refine AWP.ret ?_; (repeat (first | refine inB_r ?_ | refine andThen_r ?_)); refine retQ_r ?_)
        exact Ends.sp [iA v, iA rank, iA 0] [(H, _), (Q, _)] ⟨rfl, rfl⟩
      | false =>
        rw [if_pos ⟨by omega, hq2⟩] at hu
        refine AWP.cond_f rfl rfl ?_
        have f1 := hiI_at (show i < M.length by omega)
        have f2 := hiI_at (show kk < M.length by omega)
        obtain ⟨y, f3⟩ := hiI_set2 (i := i) (show kk < M.length by omega) M[kk]
        (repeat first | refine AOps.nil ?_ | refine WF ?_)
        (repeat refine WF ?_); refine AWP.region_run (by kernel_rfl) (by kernel_rfl) ?_; (repeat (first | refine RK ?_ | refine RGo.nil (by kernel_rfl) ?_))
        (repeat first | refine AOps.nil ?_ | refine WF ?_)
        refine AWP.as [(0, .ptr Q 0 0), (6, iA m), (7, .ptr B 0 0), (9, iA ((kk : Nat) : Int))] ((B, .row 120 3 [hiI ⟨v, rank, came⟩]) :: (H, .row 120 3 (((M.map hiI).set i (hiI M[kk])).set kk (hiI M[i]))) :: (Q, .row 91 2 [.agg [.sl H 0 m, iA c]]) :: Sf) ?_
        rw [hiI_swp (show i < M.length by omega) (show kk < M.length by omega)]
        (repeat (first | refine WK ?_ | refine All.i fun X => ?_ | refine AllY.i fun Y => ?_))
        refine lp_next2 kk (swpH M i kk) ⟨by rw [swpH_len]; exact hM, by omega, hu⟩
    · have he : decide ((kk : Int) ≥ (m : Int)) = true := decide_eq_true (by omega)
      have he2 : decide ((m : Int) ≤ (kk : Int)) = true := decide_eq_true (by omega)
      rw [if_neg fun h => hkm (by omega)] at hu
      rw [← hu]
      (repeat refine WF ?_); refine AWP.region ?_; (repeat (first | refine WO ?_ | refine All.i fun X => ?_ | refine AllY.i fun Y => ?_)); refine AOps.nil ?_; (repeat refine WN ?_)
      refine AWP.cond_t rfl (by first | rfl | assumption) ?_
      (repeat (first | refine WK ?_ | refine All.i fun X => ?_ | refine AllY.i fun Y => ?_))
      refine AWP.rs fun X0 => ?_
      (repeat refine WF ?_); refine AWP.region_run (by kernel_rfl) (by kernel_rfl) ?_; (repeat (first | refine RK ?_ | refine RGo.nil (by kernel_rfl) ?_))
      (refine AWP.ret ?_; (repeat (first | refine inB_r ?_ | refine andThen_r ?_)); refine retQ_r ?_)
      exact Ends.sp [iA v, iA rank, iA 0] [(H, _), (Q, _)] ⟨rfl, rfl⟩
end Go.Proofs.Ytanokoededdceaa

namespace Go.Proofs.Ytanokoededdceaa
set_option linter.unusedVariables false
end Go.Proofs.Ytanokoededdceaa

namespace Go.Proofs.Ytanokoededdceaa
set_option linter.unusedVariables false
end Go.Proofs.Ytanokoededdceaa

namespace Go.Proofs.Ytanokoededdceaa
set_option linter.unusedVariables false
/-- The numbers from 0. -/
def iotaL (n : Nat) : List Int := (List.range n).map fun i : Nat => (i : Int)
theorem iotaL_len (n : Nat) : (iotaL n).length = n := by simp [iotaL]
theorem iotaL_at {n i : Nat} (h : i < n) : (iotaL n)[i]? = some (i : Int) := by simp [iotaL, h]
theorem iotaL_mem {n : Nat} {x : Int} : x ∈ iotaL n ↔ ∃ i : Nat, i < n ∧ x = i := by
  simp only [iotaL, List.mem_map, List.mem_range]
  constructor
  · rintro ⟨i, h, rfl⟩; exact ⟨i, h, rfl⟩
  · rintro ⟨i, h, rfl⟩; exact ⟨i, h, rfl⟩
theorem iotaL_nodup (n : Nat) : (iotaL n).Nodup := by
  unfold iotaL List.Nodup
  rw [List.pairwise_map]
  exact List.pairwise_lt_range.imp fun h => by omega
theorem sorted_unique {β : Type} {R : β → β → Prop} (anti : ∀ x y, R x y → R y x → x = y) : ∀ {a b : List β}, a.Perm b → a.Pairwise R → b.Pairwise R → a = b
  | [], b, h, _, _ => (List.nil_perm.1 h).symm
  | x :: a, [], h, _, _ => absurd h.length_eq (by simp)
  | x :: a, y :: b, h, ha, hb => by
    have ha' := List.pairwise_cons.1 ha
    have hb' := List.pairwise_cons.1 hb
    have e : x = y := by
      have h1 : x ∈ y :: b := h.mem_iff.1 (by simp)
      have h2 : y ∈ x :: a := h.mem_iff.2 (by simp)
      rcases List.mem_cons.1 h1 with e | h1
      · exact e
      · rcases List.mem_cons.1 h2 with e | h2
        · exact e.symm
        · exact anti _ _ (ha'.1 y h2) (hb'.1 x h1)
    subst e
    rw [sorted_unique anti (List.Perm.cons_inv h) ha'.2 hb'.2]
section
variable {α : Type}
/-- Values with their numbers, in the order in which they came. -/
def hiL : Nat → List α → List Int → List (HI α)
  | k, v :: vs, r :: rs => ⟨v, r, k⟩ :: hiL (k + 1) vs rs
  | _, _, _ => []
theorem hiL_len : ∀ (k : Nat) (vs : List α) (rs : List Int), vs.length = rs.length → (hiL k vs rs).length = vs.length
  | k, [], [], _ => rfl
  | k, v :: vs, r :: rs, h => by simp [hiL, hiL_len (k + 1) vs rs (by simpa using h)]
  | k, [], _ :: _, h => by simp at h
  | k, _ :: _, [], h => by simp at h
theorem hiL_at : ∀ (k : Nat) (vs : List α) (rs : List Int) (i : Nat) (v : α) (r : Int), vs[i]? = some v → rs[i]? = some r → (hiL k vs rs)[i]? = some ⟨v, r, ((k + i : Nat) : Int)⟩
  | k, [], _, i, v, r, h, _ => by simp at h
  | k, _ :: _, [], i, v, r, _, h => by simp at h
  | k, v0 :: vs, r0 :: rs, 0, v, r, h1, h2 => by
    simp at h1 h2
    subst h1 h2
    rfl
  | k, v0 :: vs, r0 :: rs, i + 1, v, r, h1, h2 => by
    have := hiL_at (k + 1) vs rs i v r (by simpa using h1) (by simpa using h2)
    rw [show k + 1 + i = k + (i + 1) by omega] at this
    simpa [hiL] using this
theorem hiL_mem {k : Nat} {vs : List α} {rs : List Int} (hl : vs.length = rs.length) {x : HI α} (h : x ∈ hiL k vs rs) : ∃ i : Nat, vs[i]? = some x.v ∧ rs[i]? = some x.rank ∧ x.came = ((k + i : Nat) : Int) := by
  obtain ⟨i, hi, rfl⟩ := List.getElem_of_mem h
  have hv : i < vs.length := by rw [hiL_len k vs rs hl] at hi; exact hi
  have := hiL_at k vs rs i vs[i] (rs[i]'(by omega)) (List.getElem?_eq_getElem hv) (List.getElem?_eq_getElem (by omega))
  rw [List.getElem?_eq_getElem hi] at this
  injection this with this
  rw [this]
  exact ⟨i, List.getElem?_eq_getElem hv, List.getElem?_eq_getElem (by omega), rfl⟩
theorem hiL_v : ∀ (k : Nat) (vs : List α) (rs : List Int), vs.length = rs.length → (hiL k vs rs).map HI.v = vs
  | k, [], [], _ => rfl
  | k, v :: vs, r :: rs, h => by simp [hiL, hiL_v (k + 1) vs rs (by simpa using h)]
  | k, [], _ :: _, h => by simp at h
  | k, _ :: _, [], h => by simp at h
/-- The number of a value, and when it came. -/
def HI.key (x : HI α) : HI Unit := ⟨(), x.rank, x.came⟩
theorem hiL_key : ∀ (k : Nat) (vs : List α) (rs : List Int), vs.length = rs.length → (hiL k vs rs).map HI.key = hiL k (rs.map fun _ => ()) rs
  | k, [], [], _ => rfl
  | k, v :: vs, r :: rs, h => by simp [hiL, hiL_key (k + 1) vs rs (by simpa using h), HI.key]
  | k, [], _ :: _, h => by simp at h
  | k, _ :: _, [], h => by simp at h
theorem nil_heap : Hp ([] : List (HI α)) := fun j hj => by simp at hj
/-- All values in the order in which they are taken. -/
def sortD (vs : List α) (rs : List Int) : List (HI α) := drain vs.length (puts [] (hiL 0 vs rs))
theorem sortD_spec {vs : List α} {rs : List Int} (hl : vs.length = rs.length) : (sortD vs rs).Perm (hiL 0 vs rs) ∧ (sortD vs rs).Pairwise hle := by
  obtain ⟨h1, h2⟩ := puts_spec (hiL 0 vs rs) nil_heap
  obtain ⟨h3, h4⟩ := drain_spec vs.length (l := puts [] (hiL 0 vs rs)) (by rw [puts_len, hiL_len 0 vs rs hl]) h1
  exact ⟨h3.trans (by simpa using h2), h4⟩
theorem sortD_len {vs : List α} {rs : List Int} (hl : vs.length = rs.length) : (sortD vs rs).length = vs.length := by
  rw [(sortD_spec hl).1.length_eq, hiL_len 0 vs rs hl]
theorem sortD_key {β : Type} {vs : List α} {us : List β} {rs : List Int} (hl : vs.length = rs.length) (hu : us.length = rs.length) : (sortD vs rs).map HI.key = (sortD us rs).map HI.key := by
  refine sorted_unique (R := hle) (fun x y h1 h2 => ?_) ?_ ?_ ?_
  · obtain ⟨⟨⟩, r, c⟩ := x
    obtain ⟨⟨⟩, r', c'⟩ := y
    unfold hle at h1 h2
    dsimp only at h1 h2
    have e1 : r = r' := by omega
    have e2 : c = c' := by omega
    rw [e1, e2]
  · refine ((sortD_spec hl).1.map _).trans (List.Perm.trans ?_ ((sortD_spec hu).1.map _).symm)
    rw [hiL_key 0 vs rs hl, hiL_key 0 us rs hu]
  · rw [List.pairwise_map]
    exact (sortD_spec hl).2
  · rw [List.pairwise_map]
    exact (sortD_spec hu).2
end
/-- What queue.Sort returns. -/
def sortH (rs : List Int) : List Int := (sortD (iotaL rs.length) rs).map HI.v
theorem sortH_len (rs : List Int) : (sortH rs).length = rs.length := by
  unfold sortH
  rw [List.length_map, sortD_len (iotaL_len _), iotaL_len]
theorem sortH_perm (rs : List Int) : (sortH rs).Perm (iotaL rs.length) := by
  have := (sortD_spec (vs := iotaL rs.length) (rs := rs) (iotaL_len _)).1.map HI.v
  rw [hiL_v 0 _ _ (iotaL_len _)] at this
  exact this
/-- The j-th that is taken. -/
theorem sortD_at {α : Type} {vs : List α} {rs : List Int} (hl : vs.length = rs.length) {j : Nat} (hj : j < rs.length) : ∃ (t : Nat) (v : α) (r : Int), vs[t]? = some v ∧ rs[t]? = some r ∧ (sortD vs rs)[j]? = some ⟨v, r, t⟩ ∧ (sortH rs)[j]? = some (t : Int) := by
  have hD : j < (sortD vs rs).length := by rw [sortD_len hl]; omega
  obtain ⟨t, e1, e2, e3⟩ := hiL_mem hl ((sortD_spec hl).1.mem_iff.1 (List.getElem_mem hD))
  rw [Nat.zero_add] at e3
  refine ⟨t, _, _, e1, e2, ?_, ?_⟩
  · rw [List.getElem?_eq_getElem hD, ← e3]
  · have hi := iotaL_len rs.length
    have hD2 : j < (sortD (iotaL rs.length) rs).length := by rw [sortD_len hi, hi]; exact hj
    have hk := congrArg (fun l => l[j]?) (sortD_key hl hi)
    simp only [List.getElem?_map, List.getElem?_eq_getElem hD, List.getElem?_eq_getElem hD2, Option.map_some, Option.some.injEq, HI.key, HI.mk.injEq, true_and] at hk
    obtain ⟨u, f1, f2, f3⟩ := hiL_mem hi ((sortD_spec hi).1.mem_iff.1 (List.getElem_mem hD2))
    rw [Nat.zero_add] at f3
    have hut : u = t := by
      have := hk.2
      rw [e3, f3] at this
      omega
    subst hut
    have hu : u < rs.length := (List.getElem?_eq_some_iff.1 f2).1
    rw [iotaL_at hu] at f1
    injection f1 with f1
    unfold sortH
    rw [List.getElem?_map, List.getElem?_eq_getElem hD2, Option.map_some, ← f1]
/-- Of those that are left it has the least number, and came first. -/
theorem sortH_least {rs : List Int} {j t : Nat} {r : Int} (h : (sortH rs)[j]? = some (t : Int)) (hr : rs[t]? = some r) : (t : Int) ∉ (sortH rs).take j ∧ ∀ (u : Nat) (s : Int), rs[u]? = some s → (u : Int) ∉ (sortH rs).take j → r < s ∨ r = s ∧ t ≤ u := by
  have hi := iotaL_len rs.length
  have hj : j < (sortH rs).length := (List.getElem?_eq_some_iff.1 h).1
  have hjt : (sortH rs)[j] = (t : Int) := (List.getElem?_eq_some_iff.1 h).2
  have hnd : (sortH rs).Nodup := (sortH_perm rs).nodup_iff.2 (iotaL_nodup _)
  have hel : ∀ (m : Nat) (hm : m < (sortD (iotaL rs.length) rs).length), ∃ u : Nat, (sortD (iotaL rs.length) rs)[m].v = u ∧ rs[u]? = some (sortD (iotaL rs.length) rs)[m].rank ∧ (sortD (iotaL rs.length) rs)[m].came = u := fun m hm => by
    obtain ⟨u, f1, f2, f3⟩ := hiL_mem hi ((sortD_spec hi).1.mem_iff.1 (List.getElem_mem hm))
    have hu : u < rs.length := (List.getElem?_eq_some_iff.1 f2).1
    rw [iotaL_at hu] at f1
    injection f1 with f1
    rw [Nat.zero_add] at f3
    exact ⟨u, f1.symm, f2, f3⟩
  have hjD : j < (sortD (iotaL rs.length) rs).length := by unfold sortH at hj; rw [List.length_map] at hj; exact hj
  obtain ⟨t', g1, g2, g3⟩ := hel j hjD
  have ht : t' = t := by
    have h' := h
    unfold sortH at h'
    rw [List.getElem?_map, List.getElem?_eq_getElem hjD, Option.map_some, g1] at h'
    injection h' with h'
    omega
  subst ht
  rw [hr] at g2
  injection g2 with g2
  refine ⟨fun hm => ?_, fun u s hs hu => ?_⟩
  · obtain ⟨m, hm1, hm2⟩ := List.getElem_of_mem hm
    rw [List.length_take] at hm1
    rw [List.getElem_take, ← hjt] at hm2
    exact List.pairwise_iff_getElem.1 hnd m j (by omega) hj (by omega) hm2
  · have hul : u < rs.length := (List.getElem?_eq_some_iff.1 hs).1
    have hmem : (u : Int) ∈ sortH rs := (sortH_perm rs).mem_iff.2 (iotaL_mem.2 ⟨u, hul, rfl⟩)
    obtain ⟨m, hm1, hm2⟩ := List.getElem_of_mem hmem
    have hmj : j ≤ m := Nat.le_of_not_lt fun hlt => hu (List.mem_take_iff_getElem.2 ⟨m, by omega, hm2⟩)
    have hmD : m < (sortD (iotaL rs.length) rs).length := by unfold sortH at hm1; rw [List.length_map] at hm1; exact hm1
    obtain ⟨u', k1, k2, k3⟩ := hel m hmD
    have hu' : u' = u := by
      have h' : (sortH rs)[m]? = some (u : Int) := by rw [List.getElem?_eq_getElem hm1, hm2]
      unfold sortH at h'
      rw [List.getElem?_map, List.getElem?_eq_getElem hmD, Option.map_some, k1] at h'
      injection h' with h'
      omega
    subst hu'
    rw [hs] at k2
    injection k2 with k2
    rcases Nat.lt_or_eq_of_le hmj with hlt | rfl
    · have := List.pairwise_iff_getElem.1 (sortD_spec hi).2 j m hjD hmD hlt
      unfold hle at this
      rw [g3, k3, ← g2, ← k2] at this
      omega
    · have : (t' : Int) = u' := by rw [← g3, ← k3]
      have e : r = s := by rw [g2, k2]
      omega
/-- What is left after j are taken. -/
theorem drain_step {α : Type} {l : List (HI α)} {D : List (HI α)} {n j : Nat} (hn : l.length = n) (hj : drain n l = D.drop j) {x : HI α} (hx : D[j]? = some x) : 0 < n ∧ l[0]? = some x ∧ drain (n - 1) (restM l) = D.drop (j + 1) := by
  obtain ⟨h1, h2⟩ := List.getElem?_eq_some_iff.1 hx
  rw [List.drop_eq_getElem_cons h1, h2] at hj
  cases n with
  | zero => rw [drain] at hj; cases hj
  | succ n =>
    have h0 : 0 < l.length := by omega
    rw [drain, List.getElem?_eq_getElem h0] at hj
    injection hj with e1 e2
    exact ⟨Nat.succ_pos _, by rw [List.getElem?_eq_getElem h0, e1], by simpa using e2⟩
end Go.Proofs.Ytanokoededdceaa

namespace Go.Proofs.Ytanokoededdceaa
set_option linter.unusedVariables false
set_option maxHeartbeats 1000000 in
theorem qsort_ps (rs : List Int) (hl : rs.length ≤ 4096) : PS Try.prog 10 [intsA false rs] (.tup [intsA true (sortH rs), iA 0]) := by
  have him : (rs.map iA).length = rs.length := List.length_map _
  have hio := iotaL_len rs.length
  have hhl := hiL_len 0 (iotaL rs.length) rs hio
  rw [hio] at hhl
  refine Spec.of (nt := 37) (res := [.tmp 2, .tmp 3]) Try.func10 rfl (by kernel_rfl) rfl rfl rfl fun Sf => ?_
  (repeat (first | refine WK ?_ | refine All.i fun X => ?_ | refine AllY.i fun Y => ?_))
  refine AWP.cond_f rfl (decide_eq_false (by omega)) ?_
  (repeat first | refine AOps.nil ?_ | refine WF ?_)
  (repeat refine WF ?_); refine AWP.region ?_; (repeat (first | refine WO ?_ | refine All.i fun Q => ?_ | refine AllY.i fun Y => ?_)); refine AOps.nil ?_; (repeat refine WN ?_)
  (repeat first | refine AOps.nil ?_ | refine WF ?_)
  refine AWP.adoptIn 120 3 .here (fun K => .cons (.agg (.cons (.base .nil) (.cons .same .nil))) .nil) fun H => ?_
  (repeat (first | refine WK ?_ | refine All.i fun X => ?_ | refine AllY.i fun Y => ?_))
  refine AWP.lp2 (fun (i H : Nat) => ⟨[(4, .ptr Q 0 0), (14, intsA false rs), (15, iA (rs.map iA).length), (16, iA i)], (H, .row 120 3 ((puts [] ((hiL 0 (iotaL rs.length) rs).take i)).map hiI)) :: (Q, .row 91 2 [.agg [.sl H 0 i, iA i]]) :: Sf⟩) (fun i _ => i ≤ rs.length) (fun i _ => rs.length - i) 0 H (Nat.zero_le _) ?_
  rintro i H' hi
  (repeat (first | refine WK ?_ | refine All.i fun X => ?_ | refine AllY.i fun Y => ?_))
  refine AWP.cond rfl (fun hc => ?_) (fun hc => ?_)
  · have h : i < rs.length := by rw [decide_eq_true_eq, him] at hc; omega
    have hat : (rs.map iA)[i]? = some (iA rs[i]) := by rw [List.getElem?_map, List.getElem?_eq_getElem h]; rfl
    have hat2 := hiL_at 0 (iotaL rs.length) rs i _ _ (iotaL_at h) (List.getElem?_eq_getElem h)
    rw [Nat.zero_add] at hat2
    have hpt := puts_take (xs := hiL 0 (iotaL rs.length) rs) (i := i) (by omega) []
    rw [(List.getElem?_eq_some_iff.1 hat2).2] at hpt
    have hll : (puts [] ((hiL 0 (iotaL rs.length) rs).take i)).length = i := by rw [puts_len, List.length_take]; omega
    have hpu := putI_sp Q H' i (puts [] ((hiL 0 (iotaL rs.length) rs).take i)) i (i : Int) rs[i] hll.symm (by omega) (by omega)
    rw [← hpt] at hpu
    (repeat (first | (refine AOps.gN ?_; first | refine AOps.eQ3 (h := hpu) fun K => ?_) | refine WK ?_ | refine All.i fun X => ?_ | refine AllY.i fun Y => ?_))
    refine lp_next2 (i + 1) K h
  · have h : i = rs.length := by rw [decide_eq_false_iff_not, him] at hc; omega
    subst h
    have htk : (hiL 0 (iotaL rs.length) rs).take rs.length = hiL 0 (iotaL rs.length) rs := List.take_of_length_le (by omega)
    rw [htk]
    clear hc htk
    have hp0 := (puts_spec (hiL 0 (iotaL rs.length) rs) nil_heap).1
    have hM0 : (puts [] (hiL 0 (iotaL rs.length) rs)).length = rs.length := by rw [puts_len, hhl]
    have hD : drain rs.length (puts [] (hiL 0 (iotaL rs.length) rs)) = (sortD (iotaL rs.length) rs).drop 0 := by unfold sortD; rw [hio, List.drop_zero]
    obtain ⟨M0, hMe⟩ : ∃ M, puts [] (hiL 0 (iotaL rs.length) rs) = M := ⟨_, rfl⟩
    rw [hMe] at hM0 hD ⊢
    obtain ⟨n, hn⟩ : ∃ n, rs.length = n := ⟨_, rfl⟩
    (repeat (first | refine WK ?_ | refine All.i fun X => ?_ | refine AllY.i fun Y => ?_))
    refine AWP.adopt (d := 7) 3 1 rfl fun O => ?_
    refine AWP.lp3 (fun (j O : Nat) (M : List (HI Int)) => ⟨[(4, .ptr Q 0 0), (7, .sl O 0 j)], (O, .row 3 1 (((sortH rs).take j).map iA)) :: (H', .row 120 3 (M.map hiI)) :: (Q, .row 91 2 [.agg [.sl H' 0 (rs.length - j), iA rs.length]]) :: Sf⟩) (fun j _ M => j ≤ rs.length ∧ M.length = rs.length - j ∧ drain (rs.length - j) M = (sortD (iotaL rs.length) rs).drop j) (fun j _ _ => rs.length - j) 0 O M0 ⟨Nat.zero_le _, hM0, hD⟩ ?_
    clear hM0 hD hMe
    rintro j O' M ⟨hj, hM, hD⟩
    have hlen := lenI_sp Q H' (rs.length - j) rs.length
    (repeat (first | (refine AOps.gN ?_; first | (refine AOps.g_callf ?_; first | refine AOps.z1 (h := hlen) (hT := .fz) (k := ?_))) | refine WK ?_ | refine All.i fun X => ?_ | refine AllY.i fun Y => ?_))
    refine AWP.cond rfl (fun hc => ?_) (fun hc => ?_)
    · have h : j < rs.length := by have := of_decide_eq_true hc; omega
      obtain ⟨t, v, r, e1, e2, e3, e4⟩ := sortD_at hio h
      have ht : t < rs.length := (List.getElem?_eq_some_iff.1 e2).1
      rw [iotaL_at ht] at e1
      injection e1 with e1
      subst e1
      obtain ⟨d1, d2, d3⟩ := drain_step hM hD e3
      have htk := takeI_sp Q H' (rs.length - j) M rs.length (t : Int) r (t : Int) hM.symm (by omega) d2
      have hsj : (sortH rs).take (j + 1) = (sortH rs).take j ++ [(t : Int)] := by
        obtain ⟨q1, q2⟩ := List.getElem?_eq_some_iff.1 e4
        rw [List.take_succ_eq_append_getElem q1, q2]
      have hsl : (((sortH rs).take j).map iA).length = j := by rw [List.length_map, List.length_take, sortH_len]; omega
      (repeat (first | (refine AOps.gN ?_; first | (refine AOps.g_callf ?_; first | refine AOps.z1 (h := htk) (hT := .fz) (k := ?_))) | refine WK ?_ | refine All.i fun X => ?_ | refine AllY.i fun Y => ?_))
      have hma : ((sortH rs).take (j + 1)).map iA = ((sortH rs).take j).map iA ++ [iA t] := by rw [hsj]; simp
      refine lp_next3 (j + 1) Y (restM M) ⟨h, by rw [rest_len (by omega)]; omega, d3⟩ (by omega) ⟨by exact Lk.f, ?_⟩
      rw [hma]
      exact Sub.f
    · have h : j = rs.length := by have := of_decide_eq_false hc; omega
      subst h
      clear hc
      have hsl : (sortH rs).take rs.length = sortH rs := List.take_of_length_le (by rw [sortH_len]; omega)
      rw [hsl]
      (repeat (first | refine WK ?_ | refine All.i fun X => ?_ | refine AllY.i fun Y => ?_))
      (refine AWP.ret ?_; (repeat (first | refine inB_r ?_ | refine andThen_r ?_)); refine retQ_r ?_)
      exact Ends.cv [.sl O' 0 rs.length, iA 0] [intsA true (sortH rs), iA 0] (.cons (.cell (.sl (p := 0) .here (by simp [sortH_len]))) (.cons (.cell .same) .nil))
end Go.Proofs.Ytanokoededdceaa

namespace Go.Proofs.Ytanokoededdceaa
set_option linter.unusedVariables false
def hiE (x : HI Ent) : AV := .agg [iA x.v.n, iA x.v.gen, iA x.rank, iA x.came]
instance {x : HI Ent} : Frz (hiE x) (hiE x) := ⟨rfl⟩
theorem hiE_lds (S : List Slot) : ∀ l : List (HI Ent), Lds S (l.map hiE) (l.map hiE)
  | [] => .nil
  | x :: l => .cons (show Ld S (hiE x) (hiE x) from .frz (a := hiE x)) (hiE_lds S l)
theorem hiE_at {l : List (HI Ent)} {i : Nat} (hi : i < l.length) : (l.map hiE)[i]? = some (hiE l[i]) := by rw [List.getElem?_map, List.getElem?_eq_getElem hi]; rfl
theorem hiE_swp {l : List (HI Ent)} {i k : Nat} (hi : i < l.length) (hk : k < l.length) : ((l.map hiE).set i (hiE l[k])).set k (hiE l[i]) = (swpH l i k).map hiE := by rw [swpH_eq hi hk, List.map_set, List.map_set]
theorem hiE_set2 {l : List (HI Ent)} {i j : Nat} (hj : j < l.length) (x : HI Ent) : ∃ y, ((l.map hiE).set i (hiE x))[j]? = some (hiE y) := by
  by_cases e : i = j
  · subst e; exact ⟨x, List.getElem?_set_self (by simpa using hj)⟩
  · exact ⟨l[j], by rw [List.getElem?_set_ne e]; exact hiE_at hj⟩
theorem beforeE_ps (l : List (HI Ent)) (c : Int) (i k : Nat) (hi : i < l.length) (hk : k < l.length) : PS Try.prog 30 [.fp [.lst false 87 4 (l.map hiE), iA c], iA i, iA k] (bA (befAt l i k)) := by
  have h1 := hiE_at hi
  have h2 := hiE_at hk
  rw [befAt_eq hi hk]
  obtain ⟨⟨av, ar, ac⟩, ha⟩ : ∃ a, l[i] = a := ⟨_, rfl⟩
  obtain ⟨⟨bv, br, bc⟩, hb⟩ : ∃ a, l[k] = a := ⟨_, rfl⟩
  rw [ha] at h1 ⊢
  rw [hb] at h2 ⊢
  refine Spec.of (nt := 38) (res := [.tmp 6]) Try.func30 rfl (by kernel_rfl) rfl rfl rfl fun Sf => ?_
  (repeat refine WF ?_); refine AWP.region ?_; (repeat (first | refine WO ?_ | refine All.i fun X => ?_ | refine AllY.i fun Y => ?_)); refine AOps.nil ?_; (repeat refine WN ?_)
  (repeat first | refine AOps.nil ?_ | refine WF ?_)
  refine AWP.rs fun A => AWP.rs fun B => ?_
  (repeat refine WF ?_); refine AWP.region_run (by kernel_rfl) (by kernel_rfl) ?_; (repeat (first | refine RK ?_ | refine RGo.nil (by kernel_rfl) ?_))
  (repeat (first | refine WK ?_ | refine All.i fun X => ?_ | refine AllY.i fun Y => ?_))
  refine AWP.cond rfl (fun hc => ?_) (fun hc => ?_)
  · have hc : ar ≠ br := by simpa using hc
    (repeat (first | refine WK ?_ | refine All.i fun X => ?_ | refine AllY.i fun Y => ?_))
    (refine AWP.ret ?_; (repeat (first | refine inB_r ?_ | refine andThen_r ?_)); refine retQ_r ?_); refine Ends.ps ?_
    unfold bef
    rw [if_pos hc]
  · have hc : ar = br := by simpa using hc
    (repeat (first | refine WK ?_ | refine All.i fun X => ?_ | refine AllY.i fun Y => ?_))
    (refine AWP.ret ?_; (repeat (first | refine inB_r ?_ | refine andThen_r ?_)); refine retQ_r ?_); refine Ends.ps ?_
    unfold bef
    rw [if_neg (by simp [hc])]
theorem beforeE_sp (Q H n : Nat) (l : List (HI Ent)) (c : Int) (i k : Nat) (hn : n = l.length) (hi : i < l.length) (hk : k < l.length) : Spec Try.prog 30 [.ptr Q 0 0, iA i, iA k] [(H, .row 87 4 (l.map hiE)), (Q, .row 40 2 [.agg [.sl H 0 n, iA c]])] fun r S' => r = bA (befAt l i k) ∧ S' = [(H, .row 87 4 (l.map hiE)), (Q, .row 40 2 [.agg [.sl H 0 n, iA c]])] := by
  subst hn
  refine PS.lend (beforeE_ps l c i k hi hk) rfl (.cons (.ptr (b := .agg [.lst false 87 4 (l.map hiE), iA c]) (.next .here) (.agg (.cons (.sl .here (by simp) ?_) (.cons (.frz (a := iA c)) .nil))) rfl) (.cons (.frz (a := iA i)) (.cons (.frz (a := iA k)) .nil)))
  rw [List.drop_zero, List.take_of_length_le (by simp)]
  exact hiE_lds _ l
set_option maxHeartbeats 1000000 in
theorem putE_sp (Q H n : Nat) (l : List (HI Ent)) (c : Nat) (v : Ent) (rank : Int) (hn : n = l.length) (hl : l.length < 4096) (hc : c ≤ 1099511627776) : Spec Try.prog 9 [.ptr Q 0 0, entA v, iA rank] [(H, .row 87 4 (l.map hiE)), (Q, .row 40 2 [.agg [.sl H 0 n, iA c]])] fun r S' => ∃ K : Nat, r = iA 0 ∧ S' = [(K, .row 87 4 ((putM l ⟨v, rank, c⟩).map hiE)), (Q, .row 40 2 [.agg [.sl K 0 (n + 1), iA ((c + 1 : Nat) : Int)]])] := by
  subst hn
  have him : (l.map hiE).length = l.length := List.length_map _
  refine Spec.of (nt := 86) (res := [.tmp 6]) Try.func9 rfl (by kernel_rfl) rfl rfl rfl fun Sf => ?_
  (repeat (first | refine WK ?_ | refine All.i fun X => ?_ | refine AllY.i fun Y => ?_))
  refine AWP.cond_f rfl (decide_eq_false (by omega)) ?_
  (repeat first | refine AOps.nil ?_ | refine WF ?_)
  refine AWP.rs fun K => ?_
  (repeat refine WF ?_); refine AWP.region_run (by kernel_rfl) (by kernel_rfl) ?_; (repeat (first | (refine RGo.gN ?_; first | (refine RGo.g_lit ?_; refine RGo.goL (hiE ⟨v, rank, c⟩) ?_)) | (refine RGo.gQ ?_; first | (refine RGo.g_lit ?_; refine RGo.goL (hiE ⟨v, rank, c⟩) ?_)) | refine RK ?_ | refine RGo.nil (by kernel_rfl) ?_))
  (repeat first | refine AOps.nil ?_ | refine WF ?_)
  (repeat refine WF ?_); refine AWP.region ?_; (repeat (first | (refine AOps.gN ?_; first | refine AOps.go (h := W.addE ((c + 1 : Nat) : Int) (by omega) (by omega) rfl rfl) (k := ?_)) | refine WO ?_ | refine All.i fun X => ?_ | refine AllY.i fun Y => ?_)); refine AOps.nil ?_; (repeat refine WN ?_)
  (repeat first | refine AOps.nil ?_ | refine WF ?_)
  (repeat refine WF ?_); refine AWP.region ?_; (repeat (first | (refine AOps.gN ?_; first | refine AOps.go (h := W.subE (l.length : Int) (by simp) (by omega) rfl rfl) (k := ?_)) | refine WO ?_ | refine All.i fun X => ?_ | refine AllY.i fun Y => ?_)); refine AOps.nil ?_; (repeat refine WN ?_)
  (repeat first | refine AOps.nil ?_ | refine WF ?_)
  have hma : l.map hiE ++ [hiE ⟨v, rank, c⟩] = (l ++ [(⟨v, rank, c⟩ : HI Ent)]).map hiE := by simp
  rw [hma]
  have hpm : putM l ⟨v, rank, c⟩ = upM (l ++ [⟨v, rank, c⟩]) l.length := rfl
  refine AWP.lp2 (fun (i : Nat) (M : List (HI Ent)) => ⟨[(0, .ptr Q 0 0), (7, iA i)], (K, .row 87 4 (M.map hiE)) :: (Q, .row 40 2 [.agg [.sl K 0 (l.length + 1), iA ((c + 1 : Nat) : Int)]]) :: Sf⟩) (fun i M => M.length = l.length + 1 ∧ i < l.length + 1 ∧ upM M i = putM l ⟨v, rank, c⟩) (fun i _ => i) l.length (l ++ [⟨v, rank, c⟩]) ⟨by simp, by omega, hpm.symm⟩ ?_
  · rintro i M ⟨hM, hi, hu⟩
    clear hpm him
    rcases Nat.eq_zero_or_pos i with h0 | h0
    · subst h0
      (repeat (first | refine WK ?_ | refine All.i fun X => ?_ | refine AllY.i fun Y => ?_))
      refine AWP.cond_f rfl rfl ?_
      (repeat (first | refine WK ?_ | refine All.i fun X => ?_ | refine AllY.i fun Y => ?_))
      (refine AWP.ret ?_; (repeat (first | refine inB_r ?_ | refine andThen_r ?_)); refine retQ_r ?_)
      have hz : upM M 0 = M := by rw [upM, if_neg (by simp)]
      rw [hz] at hu
      rw [← hu]
      exact Ends.sp [iA 0] [(K, _), (Q, _)] ⟨K, rfl, rfl⟩
    · obtain ⟨j, rfl⟩ : ∃ j, i = j + 1 := ⟨i - 1, by omega⟩
      have hp : j / 2 < M.length := by omega
      have hi' : j + 1 < M.length := by omega
      have hbf := beforeE_sp Q K (l.length + 1) M ((c + 1 : Nat) : Int) (j + 1) (j / 2) (by omega) hi' hp
      have hd : decide (((j + 1 : Nat) : Int) > 0) = true := decide_eq_true (by omega)
      have hd2 : decide ((0 : Int) < ((j + 1 : Nat) : Int)) = true := decide_eq_true (by omega)
      (repeat (first | (refine AOps.gN ?_; first | (refine AOps.g_callf ?_; first | refine AOps.z3 (h := hbf) (hT := .fz) (k := ?_)) | refine AOps.go (h := W.subE (j : Int) (by omega) (by omega) rfl rfl) (k := ?_) | refine AOps.go (h := W.quoN j 2 (j / 2) rfl rfl (by omega) rfl (by omega) rfl rfl) (k := ?_)) | refine WK ?_ | refine All.i fun X => ?_ | refine AllY.i fun Y => ?_))
      have hpa : (j + 1 - 1) / 2 = j / 2 := rfl
      rw [upM] at hu
      simp only [hpa] at hu
      cases hq : befAt M (j + 1) (j / 2) with
      | false =>
        rw [if_neg (by rw [hq]; simp)] at hu
        rw [← hu]
        refine AWP.cond_f rfl rfl ?_
        (repeat (first | refine WK ?_ | refine All.i fun X => ?_ | refine AllY.i fun Y => ?_))
        (refine AWP.ret ?_; (repeat (first | refine inB_r ?_ | refine andThen_r ?_)); refine retQ_r ?_)
        exact Ends.sp [iA 0] [(K, _), (Q, _)] ⟨K, rfl, rfl⟩
      | true =>
        rw [if_pos ⟨h0, hq⟩] at hu
        refine AWP.cond_t rfl rfl ?_
        have e1 := hiE_at hi'
        have e2 := hiE_at hp
        obtain ⟨y, e3⟩ := hiE_set2 (i := j + 1) hp M[j / 2]
        (repeat first | refine AOps.nil ?_ | refine WF ?_)
        (repeat refine WF ?_); refine AWP.region_run (by kernel_rfl) (by kernel_rfl) ?_; (repeat (first | (refine RGo.gN ?_; first | refine RGo.go (h := W.subE (j : Int) (by omega) (by omega) rfl rfl) (k := ?_) | refine RGo.go (h := W.quoN j 2 (j / 2) rfl rfl (by omega) rfl (by omega) rfl rfl) (k := ?_)) | (refine RGo.gQ ?_; first | refine RGo.go (h := W.subE (j : Int) (by omega) (by omega) rfl rfl) (k := ?_) | refine RGo.go (h := W.quoN j 2 (j / 2) rfl rfl (by omega) rfl (by omega) rfl rfl) (k := ?_)) | refine RK ?_ | refine RGo.nil (by kernel_rfl) ?_))
        (repeat first | refine AOps.nil ?_ | refine WF ?_)
        refine AWP.as [(0, .ptr Q 0 0), (7, iA ((j + 1 : Nat) : Int))] ((K, .row 87 4 (((M.map hiE).set (j + 1) (hiE M[j / 2])).set (j / 2) (hiE M[j + 1]))) :: (Q, .row 40 2 [.agg [.sl K 0 (l.length + 1), iA ((c + 1 : Nat) : Int)]]) :: Sf) ?_
        rw [hiE_swp hi' hp]
        (repeat (first | (refine AOps.gN ?_; first | refine AOps.go (h := W.subE (j : Int) (by omega) (by omega) rfl rfl) (k := ?_) | refine AOps.go (h := W.quoN j 2 (j / 2) rfl rfl (by omega) rfl (by omega) rfl rfl) (k := ?_)) | refine WK ?_ | refine All.i fun X => ?_ | refine AllY.i fun Y => ?_))
        refine lp_next2 (j / 2) (swpH M (j + 1) (j / 2)) ⟨by rw [swpH_len]; exact hM, by omega, hu⟩
theorem lenE_sp (Q H n : Nat) (c : Int) : Spec Try.prog 13 [.ptr Q 0 0] [(Q, .row 40 2 [.agg [.sl H 0 n, iA c]])] fun r S' => r = iA n ∧ S' = [(Q, .row 40 2 [.agg [.sl H 0 n, iA c]])] := by
  refine Spec.of (nt := 8) (res := [.tmp 2]) Try.func13 rfl (by kernel_rfl) rfl rfl rfl fun Sf => ?_
  (repeat (first | refine WK ?_ | refine All.i fun X => ?_ | refine AllY.i fun Y => ?_))
  (refine AWP.ret ?_; (repeat (first | refine inB_r ?_ | refine andThen_r ?_)); refine retQ_r ?_)
  exact Ends.sp [iA n] [(Q, _)] ⟨rfl, rfl⟩
theorem hiE_cut (l : List (HI Ent)) (m : Nat) (a z : HI Ent) : ((((l.map hiE).set 0 (hiE a)).set m (hiE z)).take m) = ((l.set 0 a).take m).map hiE := by
  rw [List.take_set_of_le (Nat.le_refl _), List.map_take, List.map_set]
set_option maxHeartbeats 2000000 in
theorem takeE_sp (Q H n : Nat) (l : List (HI Ent)) (c : Int) (v : Ent) (rank came : Int) (hn : n = l.length) (hl : l.length ≤ 4096) (hx : l[0]? = some ⟨v, rank, came⟩) : Spec Try.prog 12 [.ptr Q 0 0] [(H, .row 87 4 (l.map hiE)), (Q, .row 40 2 [.agg [.sl H 0 n, iA c]])] fun r S' => r = .tup [entA v, iA rank, iA 0] ∧ S' = [(H, .row 87 4 ((restM l).map hiE)), (Q, .row 40 2 [.agg [.sl H 0 (n - 1), iA c]])] := by
  subst hn
  obtain ⟨h0, hx0⟩ := List.getElem?_eq_some_iff.1 hx
  obtain ⟨m, hm⟩ : ∃ m, l.length = m + 1 := ⟨l.length - 1, by omega⟩
  have hr := rest_eq h0
  have hml : m < l.length := by omega
  have elm : l[l.length - 1]'(by omega) = l[m] := by congr 1; omega
  rw [elm] at hr
  have e0 := hiE_at h0
  rw [hx0] at e0
  have em := hiE_at hml
  obtain ⟨z, hz⟩ : ∃ z, hiE ⟨⟨0, 0⟩, 0, 0⟩ = z := ⟨_, rfl⟩
  obtain ⟨y, ey⟩ := hiE_set2 (i := 0) hml l[m]
  have hlm : l.length - 1 = m := by omega
  rw [hlm] at hr ⊢
  rw [hm]
  refine Spec.of (nt := 109) (res := [.cell 2 31, .tmp 3, .tmp 4]) Try.func12 rfl (by kernel_rfl) rfl rfl rfl fun Sf => ?_
  (repeat refine WF ?_); refine AWP.region ?_; (repeat (first | refine WO ?_ | refine All.i fun R2 => ?_ | refine AllY.i fun Y => ?_)); refine AOps.nil ?_; (repeat refine WN ?_)
  (repeat first | refine AOps.nil ?_ | refine WF ?_)
  (repeat refine WF ?_); refine AWP.region ?_; (repeat (first | refine WO ?_ | refine All.i fun R5 => ?_ | refine AllY.i fun Y => ?_)); refine AOps.nil ?_; (repeat refine WN ?_)
  (repeat first | refine AOps.nil ?_ | refine WF ?_)
  (repeat refine WF ?_); refine AWP.region ?_; (repeat (first | (refine AOps.gN ?_; first | refine AOps.go (h := W.subE (m : Int) (by omega) (by omega) rfl rfl) (k := ?_)) | refine WO ?_ | refine All.i fun X => ?_ | refine AllY.i fun Y => ?_)); refine AOps.nil ?_; (repeat refine WN ?_)
  (repeat (first | refine WK ?_ | refine All.i fun X => ?_ | refine AllY.i fun Y => ?_))
  refine AWP.cond_f rfl (decide_eq_false (by omega)) ?_
  (repeat first | refine AOps.nil ?_ | refine WF ?_)
  (repeat refine WF ?_); refine AWP.region ?_; (repeat (first | refine WO ?_ | refine All.i fun B => ?_ | refine AllY.i fun Y => ?_)); refine AOps.nil ?_; (repeat refine WN ?_)
  (repeat first | refine AOps.nil ?_ | refine WF ?_)
  (repeat refine WF ?_); refine AWP.region_run (by kernel_rfl) (by kernel_rfl) ?_; (repeat (first | refine RK ?_ | refine RGo.nil (by kernel_rfl) ?_))
  (repeat first | refine AOps.nil ?_ | refine WF ?_)
  (repeat refine WF ?_); refine AWP.region ?_; (repeat (first | refine WO ?_ | refine All.i fun X => ?_ | refine AllY.i fun Y => ?_)); refine AOps.nil ?_; (repeat refine WN ?_)
  (repeat first | refine AOps.nil ?_ | refine WF ?_)
  (repeat refine WF ?_); refine AWP.region ?_; (repeat (first | (refine AOps.gN ?_; first | refine AOps.p (W.hi (a := m) rfl rfl (by exact At.f) rfl (by omega)) rfl ?_) | refine WO ?_ | refine All.i fun X => ?_ | refine AllY.i fun Y => ?_)); refine AOps.nil ?_; (repeat refine WN ?_)
  refine AWP.as [(0, .ptr Q 0 0), (6, iA m), (7, .ptr B 0 0), (2, .ptr R2 0 0)] ((B, .row 87 4 [hiE ⟨v, rank, came⟩]) :: (R2, .row 31 2 [entA ⟨0, 0⟩]) :: (H, .row 87 4 (((l.map hiE).set 0 (hiE l[m])).set m (hiE ⟨⟨0, 0⟩, 0, 0⟩))) :: (Q, .row 40 2 [.agg [.sl H 0 m, iA c]]) :: Sf) ?_
  refine AWP.shrink (X := H) m ?_ (by exact At.f)
  rw [hiE_cut]
  have hL0 : ((l.set 0 l[m]).take m).length = m := by rw [List.length_take, List.length_set]; omega
  obtain ⟨L0, hL⟩ : ∃ L0, (l.set 0 l[m]).take m = L0 := ⟨_, rfl⟩
  rw [hL] at hL0 hr ⊢
  (repeat (first | refine WK ?_ | refine All.i fun X => ?_ | refine AllY.i fun Y => ?_))
  refine AWP.lp2 (fun (i : Nat) (M : List (HI Ent)) => ⟨[(0, .ptr Q 0 0), (6, iA m), (7, .ptr B 0 0), (8, iA i), (2, .ptr R2 0 0)], (B, .row 87 4 [hiE ⟨v, rank, came⟩]) :: (R2, .row 31 2 [entA ⟨0, 0⟩]) :: (H, .row 87 4 (M.map hiE)) :: (Q, .row 40 2 [.agg [.sl H 0 m, iA c]]) :: Sf⟩) (fun i M => M.length = m ∧ i ≤ m ∧ downM M i = restM l) (fun i _ => m - i) 0 L0 ⟨hL0, Nat.zero_le _, hr.symm⟩ ?_
  clear e0 em ey hr hL hL0 elm hx hx0 hz
  rintro i M ⟨hM, hi, hu⟩
  have hi6 : i ≤ 4096 := by omega
  (repeat refine WF ?_); refine AWP.region ?_; (repeat (first | (refine AOps.gN ?_; first | refine AOps.go (h := W.mulE ((2 * i : Nat) : Int) (by omega) (by omega) rfl rfl) (k := ?_) | refine AOps.go (h := W.addE ((2 * i + 1 : Nat) : Int) (by omega) (by omega) rfl rfl) (k := ?_)) | refine WO ?_ | refine All.i fun X => ?_ | refine AllY.i fun Y => ?_)); refine AOps.nil ?_; (repeat refine WN ?_)
  (repeat first | refine AOps.nil ?_ | refine WF ?_)
  by_cases h2 : 2 * i + 2 < m
  · have hd : decide (((2 * i + 2 : Nat) : Int) < (m : Int)) = true := decide_eq_true (by omega)
    have hb1 := beforeE_sp Q H m M c (2 * i + 2) (2 * i + 1) hM.symm (by omega) (by omega)
    (repeat refine WF ?_); refine AWP.region ?_; (repeat (first | (refine AOps.gN ?_; first | (refine AOps.g_callf ?_; first | refine AOps.z3 (h := hb1) (hT := .fz) (k := ?_)) | refine AOps.go (h := W.addE ((2 * i + 2 : Nat) : Int) (by omega) (by omega) rfl rfl) (k := ?_)) | refine WO ?_ | refine All.i fun X => ?_ | refine AllY.i fun Y => ?_)); refine AOps.nil ?_; (repeat refine WN ?_)
    cases hq : befAt M (2 * i + 2) (2 * i + 1) with
    | true =>
      have hk : kid M i = 2 * i + 2 := by unfold kid; rw [if_pos ⟨by omega, hq⟩]
      refine AWP.cond_t rfl rfl ?_
      (repeat first | refine AOps.nil ?_ | refine WF ?_)
      (repeat refine WF ?_); refine AWP.region ?_; (repeat (first | (refine AOps.gN ?_; first | refine AOps.go (h := W.addE ((2 * i + 2 : Nat) : Int) (by omega) (by omega) rfl rfl) (k := ?_)) | refine WO ?_ | refine All.i fun X => ?_ | refine AllY.i fun Y => ?_)); refine AOps.nil ?_; (repeat refine WN ?_)
      (repeat first | refine AOps.nil ?_ | refine WF ?_)
      refine AWP.as [(0, .ptr Q 0 0), (6, iA m), (7, .ptr B 0 0), (8, iA i), (9, iA ((2 * i + 2 : Nat) : Int)), (2, .ptr R2 0 0)] ((B, .row 87 4 [hiE ⟨v, rank, came⟩]) :: (R2, .row 31 2 [entA ⟨0, 0⟩]) :: (H, .row 87 4 (M.map hiE)) :: (Q, .row 40 2 [.agg [.sl H 0 m, iA c]]) :: Sf) ?_
      rw [downM, hk] at hu
      obtain ⟨kk, hkk⟩ : ∃ kk, 2 * i + 2 = kk := ⟨_, rfl⟩
      have hik : i < kk := by omega
      rw [hkk] at hu ⊢
      clear hk
      by_cases hkm : kk < m
      · have he : decide ((kk : Int) ≥ (m : Int)) = false := decide_eq_false (by omega)
        have he2 : decide ((m : Int) ≤ (kk : Int)) = false := decide_eq_false (by omega)
        have hb2 := beforeE_sp Q H m M c i kk hM.symm (by omega) (by omega)
        (repeat refine WF ?_); refine AWP.region ?_; (repeat (first | (refine AOps.gN ?_; first | (refine AOps.g_callf ?_; first | refine AOps.z3 (h := hb2) (hT := .fz) (k := ?_))) | refine WO ?_ | refine All.i fun X => ?_ | refine AllY.i fun Y => ?_)); refine AOps.nil ?_; (repeat refine WN ?_)
        cases hq2 : befAt M i kk with
        | true =>
          rw [if_neg (by rw [hq2]; simp)] at hu
          rw [← hu]
          refine AWP.cond_t rfl rfl ?_
          (repeat (first | refine WK ?_ | refine All.i fun X => ?_ | refine AllY.i fun Y => ?_))
          refine AWP.rs fun X0 => ?_
          (repeat refine WF ?_); refine AWP.region_run (by kernel_rfl) (by kernel_rfl) ?_; (repeat (first | refine RK ?_ | refine RGo.nil (by kernel_rfl) ?_))
          (refine AWP.ret ?_; (repeat (first | refine inB_r ?_ | refine andThen_r ?_)); refine retQ_r ?_)
          exact Ends.sp [entA v, iA rank, iA 0] [(H, _), (Q, _)] ⟨rfl, rfl⟩
        | false =>
          rw [if_pos ⟨by omega, hq2⟩] at hu
          refine AWP.cond_f rfl rfl ?_
          have f1 := hiE_at (show i < M.length by omega)
          have f2 := hiE_at (show kk < M.length by omega)
          obtain ⟨y, f3⟩ := hiE_set2 (i := i) (show kk < M.length by omega) M[kk]
          (repeat first | refine AOps.nil ?_ | refine WF ?_)
          (repeat refine WF ?_); refine AWP.region_run (by kernel_rfl) (by kernel_rfl) ?_; (repeat (first | refine RK ?_ | refine RGo.nil (by kernel_rfl) ?_))
          (repeat first | refine AOps.nil ?_ | refine WF ?_)
          refine AWP.as [(0, .ptr Q 0 0), (6, iA m), (7, .ptr B 0 0), (9, iA ((kk : Nat) : Int)), (2, .ptr R2 0 0)] ((B, .row 87 4 [hiE ⟨v, rank, came⟩]) :: (R2, .row 31 2 [entA ⟨0, 0⟩]) :: (H, .row 87 4 (((M.map hiE).set i (hiE M[kk])).set kk (hiE M[i]))) :: (Q, .row 40 2 [.agg [.sl H 0 m, iA c]]) :: Sf) ?_
          rw [hiE_swp (show i < M.length by omega) (show kk < M.length by omega)]
          (repeat (first | refine WK ?_ | refine All.i fun X => ?_ | refine AllY.i fun Y => ?_))
          refine lp_next2 kk (swpH M i kk) ⟨by rw [swpH_len]; exact hM, by omega, hu⟩
      · have he : decide ((kk : Int) ≥ (m : Int)) = true := decide_eq_true (by omega)
        have he2 : decide ((m : Int) ≤ (kk : Int)) = true := decide_eq_true (by omega)
        rw [if_neg fun h => hkm (by omega)] at hu
        rw [← hu]
        (repeat refine WF ?_); refine AWP.region ?_; (repeat (first | refine WO ?_ | refine All.i fun X => ?_ | refine AllY.i fun Y => ?_)); refine AOps.nil ?_; (repeat refine WN ?_)
        refine AWP.cond_t rfl (by first | rfl | assumption) ?_
        (repeat (first | refine WK ?_ | refine All.i fun X => ?_ | refine AllY.i fun Y => ?_))
        refine AWP.rs fun X0 => ?_
        (repeat refine WF ?_); refine AWP.region_run (by kernel_rfl) (by kernel_rfl) ?_; (repeat (first | refine RK ?_ | refine RGo.nil (by kernel_rfl) ?_))
        (refine AWP.ret ?_; (repeat (first | refine inB_r ?_ | refine andThen_r ?_)); refine retQ_r ?_)
        exact Ends.sp [entA v, iA rank, iA 0] [(H, _), (Q, _)] ⟨rfl, rfl⟩
    | false =>
      have hk : kid M i = 2 * i + 1 := by unfold kid; rw [if_neg (by rw [hq]; simp)]
      refine AWP.cond_f rfl rfl ?_
      (repeat first | refine AOps.nil ?_ | refine WF ?_)
      refine AWP.as [(0, .ptr Q 0 0), (6, iA m), (7, .ptr B 0 0), (8, iA i), (9, iA ((2 * i + 1 : Nat) : Int)), (2, .ptr R2 0 0)] ((B, .row 87 4 [hiE ⟨v, rank, came⟩]) :: (R2, .row 31 2 [entA ⟨0, 0⟩]) :: (H, .row 87 4 (M.map hiE)) :: (Q, .row 40 2 [.agg [.sl H 0 m, iA c]]) :: Sf) ?_
      rw [downM, hk] at hu
      obtain ⟨kk, hkk⟩ : ∃ kk, 2 * i + 1 = kk := ⟨_, rfl⟩
      have hik : i < kk := by omega
      rw [hkk] at hu ⊢
      clear hk
      by_cases hkm : kk < m
      · have he : decide ((kk : Int) ≥ (m : Int)) = false := decide_eq_false (by omega)
        have he2 : decide ((m : Int) ≤ (kk : Int)) = false := decide_eq_false (by omega)
        have hb2 := beforeE_sp Q H m M c i kk hM.symm (by omega) (by omega)
        (repeat refine WF ?_); refine AWP.region ?_; (repeat (first | (refine AOps.gN ?_; first | (refine AOps.g_callf ?_; first | refine AOps.z3 (h := hb2) (hT := .fz) (k := ?_))) | refine WO ?_ | refine All.i fun X => ?_ | refine AllY.i fun Y => ?_)); refine AOps.nil ?_; (repeat refine WN ?_)
        cases hq2 : befAt M i kk with
        | true =>
          rw [if_neg (by rw [hq2]; simp)] at hu
          rw [← hu]
          refine AWP.cond_t rfl rfl ?_
          (repeat (first | refine WK ?_ | refine All.i fun X => ?_ | refine AllY.i fun Y => ?_))
          refine AWP.rs fun X0 => ?_
          (repeat refine WF ?_); refine AWP.region_run (by kernel_rfl) (by kernel_rfl) ?_; (repeat (first | refine RK ?_ | refine RGo.nil (by kernel_rfl) ?_))
          (refine AWP.ret ?_; (repeat (first | refine inB_r ?_ | refine andThen_r ?_)); refine retQ_r ?_)
          exact Ends.sp [entA v, iA rank, iA 0] [(H, _), (Q, _)] ⟨rfl, rfl⟩
        | false =>
          rw [if_pos ⟨by omega, hq2⟩] at hu
          refine AWP.cond_f rfl rfl ?_
          have f1 := hiE_at (show i < M.length by omega)
          have f2 := hiE_at (show kk < M.length by omega)
          obtain ⟨y, f3⟩ := hiE_set2 (i := i) (show kk < M.length by omega) M[kk]
          (repeat first | refine AOps.nil ?_ | refine WF ?_)
          (repeat refine WF ?_); refine AWP.region_run (by kernel_rfl) (by kernel_rfl) ?_; (repeat (first | refine RK ?_ | refine RGo.nil (by kernel_rfl) ?_))
          (repeat first | refine AOps.nil ?_ | refine WF ?_)
          refine AWP.as [(0, .ptr Q 0 0), (6, iA m), (7, .ptr B 0 0), (9, iA ((kk : Nat) : Int)), (2, .ptr R2 0 0)] ((B, .row 87 4 [hiE ⟨v, rank, came⟩]) :: (R2, .row 31 2 [entA ⟨0, 0⟩]) :: (H, .row 87 4 (((M.map hiE).set i (hiE M[kk])).set kk (hiE M[i]))) :: (Q, .row 40 2 [.agg [.sl H 0 m, iA c]]) :: Sf) ?_
          rw [hiE_swp (show i < M.length by omega) (show kk < M.length by omega)]
          (repeat (first | refine WK ?_ | refine All.i fun X => ?_ | refine AllY.i fun Y => ?_))
          refine lp_next2 kk (swpH M i kk) ⟨by rw [swpH_len]; exact hM, by omega, hu⟩
      · have he : decide ((kk : Int) ≥ (m : Int)) = true := decide_eq_true (by omega)
        have he2 : decide ((m : Int) ≤ (kk : Int)) = true := decide_eq_true (by omega)
        rw [if_neg fun h => hkm (by omega)] at hu
        rw [← hu]
        (repeat refine WF ?_); refine AWP.region ?_; (repeat (first | refine WO ?_ | refine All.i fun X => ?_ | refine AllY.i fun Y => ?_)); refine AOps.nil ?_; (repeat refine WN ?_)
        refine AWP.cond_t rfl (by first | rfl | assumption) ?_
        (repeat (first | refine WK ?_ | refine All.i fun X => ?_ | refine AllY.i fun Y => ?_))
        refine AWP.rs fun X0 => ?_
        (repeat refine WF ?_); refine AWP.region_run (by kernel_rfl) (by kernel_rfl) ?_; (repeat (first | refine RK ?_ | refine RGo.nil (by kernel_rfl) ?_))
        (refine AWP.ret ?_; (repeat (first | refine inB_r ?_ | refine andThen_r ?_)); refine retQ_r ?_)
        exact Ends.sp [entA v, iA rank, iA 0] [(H, _), (Q, _)] ⟨rfl, rfl⟩
  · have hd : decide (((2 * i + 2 : Nat) : Int) < (m : Int)) = false := decide_eq_false (by omega)
    have hk : kid M i = 2 * i + 1 := by unfold kid; rw [if_neg fun h => h2 (by omega)]
    (repeat refine WF ?_); refine AWP.region ?_; (repeat (first | (refine AOps.gN ?_; first | refine AOps.go (h := W.addE ((2 * i + 2 : Nat) : Int) (by omega) (by omega) rfl rfl) (k := ?_)) | refine WO ?_ | refine All.i fun X => ?_ | refine AllY.i fun Y => ?_)); refine AOps.nil ?_; (repeat refine WN ?_)
    refine AWP.cond_f rfl (by first | rfl | assumption) ?_
    (repeat first | refine AOps.nil ?_ | refine WF ?_)
    refine AWP.as [(0, .ptr Q 0 0), (6, iA m), (7, .ptr B 0 0), (8, iA i), (9, iA ((2 * i + 1 : Nat) : Int)), (2, .ptr R2 0 0)] ((B, .row 87 4 [hiE ⟨v, rank, came⟩]) :: (R2, .row 31 2 [entA ⟨0, 0⟩]) :: (H, .row 87 4 (M.map hiE)) :: (Q, .row 40 2 [.agg [.sl H 0 m, iA c]]) :: Sf) ?_
    rw [downM, hk] at hu
    obtain ⟨kk, hkk⟩ : ∃ kk, 2 * i + 1 = kk := ⟨_, rfl⟩
    have hik : i < kk := by omega
    rw [hkk] at hu ⊢
    clear hk
    by_cases hkm : kk < m
    · have he : decide ((kk : Int) ≥ (m : Int)) = false := decide_eq_false (by omega)
      have he2 : decide ((m : Int) ≤ (kk : Int)) = false := decide_eq_false (by omega)
      have hb2 := beforeE_sp Q H m M c i kk hM.symm (by omega) (by omega)
      (repeat refine WF ?_); refine AWP.region ?_; (repeat (first | (refine AOps.gN ?_; first | (refine AOps.g_callf ?_; first | refine AOps.z3 (h := hb2) (hT := .fz) (k := ?_))) | refine WO ?_ | refine All.i fun X => ?_ | refine AllY.i fun Y => ?_)); refine AOps.nil ?_; (repeat refine WN ?_)
      cases hq2 : befAt M i kk with
      | true =>
        rw [if_neg (by rw [hq2]; simp)] at hu
        rw [← hu]
        refine AWP.cond_t rfl rfl ?_
        (repeat (first | refine WK ?_ | refine All.i fun X => ?_ | refine AllY.i fun Y => ?_))
        refine AWP.rs fun X0 => ?_
        (repeat refine WF ?_); refine AWP.region_run (by kernel_rfl) (by kernel_rfl) ?_; (repeat (first | refine RK ?_ | refine RGo.nil (by kernel_rfl) ?_))
        (refine AWP.ret ?_; (repeat (first | refine inB_r ?_ | refine andThen_r ?_)); refine retQ_r ?_)
        exact Ends.sp [entA v, iA rank, iA 0] [(H, _), (Q, _)] ⟨rfl, rfl⟩
      | false =>
        rw [if_pos ⟨by omega, hq2⟩] at hu
        refine AWP.cond_f rfl rfl ?_
        have f1 := hiE_at (show i < M.length by omega)
        have f2 := hiE_at (show kk < M.length by omega)
        obtain ⟨y, f3⟩ := hiE_set2 (i := i) (show kk < M.length by omega) M[kk]
        (repeat first | refine AOps.nil ?_ | refine WF ?_)
        (repeat refine WF ?_); refine AWP.region_run (by kernel_rfl) (by kernel_rfl) ?_; (repeat (first | refine RK ?_ | refine RGo.nil (by kernel_rfl) ?_))
        (repeat first | refine AOps.nil ?_ | refine WF ?_)
        refine AWP.as [(0, .ptr Q 0 0), (6, iA m), (7, .ptr B 0 0), (9, iA ((kk : Nat) : Int)), (2, .ptr R2 0 0)] ((B, .row 87 4 [hiE ⟨v, rank, came⟩]) :: (R2, .row 31 2 [entA ⟨0, 0⟩]) :: (H, .row 87 4 (((M.map hiE).set i (hiE M[kk])).set kk (hiE M[i]))) :: (Q, .row 40 2 [.agg [.sl H 0 m, iA c]]) :: Sf) ?_
        rw [hiE_swp (show i < M.length by omega) (show kk < M.length by omega)]
        (repeat (first | refine WK ?_ | refine All.i fun X => ?_ | refine AllY.i fun Y => ?_))
        refine lp_next2 kk (swpH M i kk) ⟨by rw [swpH_len]; exact hM, by omega, hu⟩
    · have he : decide ((kk : Int) ≥ (m : Int)) = true := decide_eq_true (by omega)
      have he2 : decide ((m : Int) ≤ (kk : Int)) = true := decide_eq_true (by omega)
      rw [if_neg fun h => hkm (by omega)] at hu
      rw [← hu]
      (repeat refine WF ?_); refine AWP.region ?_; (repeat (first | refine WO ?_ | refine All.i fun X => ?_ | refine AllY.i fun Y => ?_)); refine AOps.nil ?_; (repeat refine WN ?_)
      refine AWP.cond_t rfl (by first | rfl | assumption) ?_
      (repeat (first | refine WK ?_ | refine All.i fun X => ?_ | refine AllY.i fun Y => ?_))
      refine AWP.rs fun X0 => ?_
      (repeat refine WF ?_); refine AWP.region_run (by kernel_rfl) (by kernel_rfl) ?_; (repeat (first | refine RK ?_ | refine RGo.nil (by kernel_rfl) ?_))
      (refine AWP.ret ?_; (repeat (first | refine inB_r ?_ | refine andThen_r ?_)); refine retQ_r ?_)
      exact Ends.sp [entA v, iA rank, iA 0] [(H, _), (Q, _)] ⟨rfl, rfl⟩
end Go.Proofs.Ytanokoededdceaa

namespace Go.Proofs.Ytanokoededdceaa
set_option linter.unusedVariables false
end Go.Proofs.Ytanokoededdceaa

namespace Go.Proofs.Ytanokoededdceaa
set_option linter.unusedVariables false
end Go.Proofs.Ytanokoededdceaa

namespace Go.Proofs.Ytanokoededdceaa
set_option linter.unusedVariables false
theorem genWorld_ks (l : List Int) : 0 < (genWorld l).kinds.length ∧ (genWorld l).kinds.length ≤ 4 := ⟨genKinds_pos l, (genKinds_small l).1⟩
/-- An index out of a raw number. -/
theorem idx_of (n : Int) {m : Nat} (h : 0 < m) : ∃ i : Nat, n % (m : Int) = i ∧ i < m :=
  ⟨(n % (m : Int)).toNat, by have := Int.emod_nonneg n (b := (m : Int)) (by omega); omega, by have := Int.emod_lt_of_pos n (b := (m : Int)) (by omega); have := Int.emod_nonneg n (b := (m : Int)) (by omega); omega⟩
end Go.Proofs.Ytanokoededdceaa

namespace Go.Proofs.Ytanokoededdceaa
set_option linter.unusedVariables false
open Go.RowKit
def baseM (w : World) : Mem := ⟨fun _ => none, fun _ => False, w, fun b => b < w.heap.size⟩
theorem baseM_good (w : World) : Good (baseM w) (baseM w) 0 [] [] :=
  ⟨fun z hz => (by cases hz), .nil, fun b hb => (by cases hb), fun b h => h, .nil, fun x hx => (by cases hx), fun x h => h.elim, .refl _, rfl, rfl, rfl, Nat.le_refl _⟩
theorem Good.bel {w : World} {m' : Mem} {N : Nat} {Z : Zs} {br : List Nat} (G : Good (baseM w) m' N Z br) : Below w.heap.size w m'.w :=
  ⟨G.os, G.tape, G.output, G.size, fun k hk => (G.le.F k hk).2⟩
theorem PS.calls_bool {P : Program} {f : FuncId} {args : List AV} {b : Bool} (h : PS P f args (bA b)) {w : World} {vals : Array Value} (hv : VTs (baseM w) args vals.toList []) :
    Calls P f vals w fun e w' => e = .returned (.bool b) ∧ Below w.heap.size w w' :=
  (h.run [] (baseM w) 0 [] vals rfl (baseM_good w) hv).mono fun e w' ⟨v, r, S', m', N', Z', br, h1, h2, h3, G, h4, h5, h6⟩ => by
    subst h1 h2 h5
    refine ⟨?_, G.bel⟩
    obtain ⟨⟨h7, _⟩, _⟩ := h4
    injection h7 with h7
    rw [h7]
theorem cells_vcs {α : Type} {m : Mem} {C : List Value → α → Prop} {sz : Nat} {f : α → AV} (hC : ∀ c x, C c x → VC m (f x) c []) : ∀ {l : List α} {xs : List Value}, Cells C sz xs l → VCs m (l.map f) xs []
  | [], _, h => ⟨h, rfl⟩
  | x :: l, _, ⟨c, ys, h1, h2, h3, h4⟩ => ⟨c, ys, [], [], h1, rfl, hC c x h3, cells_vcs hC h4⟩
theorem cell_block {w : World} {b o : Nat} {u : Value} (h : w.cell? ⟨b, o, none⟩ = some u) : ∃ arr t r, w.heap[b]? = some (.cells arr t r) ∧ arr[o]? = some u := by
  unfold World.cell? at h
  cases hb : w.heap[b]? with
  | none => simp only [hb] at h; cases h
  | some blk =>
    cases blk with
    | cells c t r => simp only [hb] at h; exact ⟨c, t, r, rfl, by simpa using h⟩
    | _ => simp only [hb] at h; cases h
theorem sl_vc {α : Type} {w : World} {C : World → Reg → List Value → α → Prop} {sz : Nat} {f : α → AV} {t : TypeId} {v : Value} {l : List α} (hsz : 0 < sz) (hC : ∀ c x, C w (Lt w) c x → VC (baseM w) (f x) c []) (hw : ∀ x, (f x).width = sz) (h : Sl w (Lt w) sz C v l) : VC (baseM w) (.lst false t sz (l.map f)) [v] [] := by
  obtain ⟨xs, ⟨h1, A, cap, rfl, hn, hr⟩, hc⟩ := h
  refine ⟨rfl, A, cap, by simp, by simpa using hn, fun e he => by obtain ⟨x, _, rfl⟩ := List.mem_map.1 he; exact hw x, fun h0 => ?_⟩
  have h0 : 0 < l.length := by simpa using h0
  obtain ⟨b, off, rfl, hb, hcell⟩ := hr h0
  have hx : 0 < xs.length := by rw [h1]; exact Nat.mul_pos h0 hsz
  obtain ⟨arr, t', r, h2, h3⟩ := cell_block (hcell 0 xs[0] (by simp))
  refine ⟨b, off, arr, t', r, rfl, hb, h2, ?_⟩
  have e : (arr.toList.drop off).take ((l.map f).length * sz) = xs := by
    apply List.ext_getElem?
    intro j
    rw [List.getElem?_take]
    split
    · rename_i hj
      have hj : j < xs.length := by rw [h1]; simpa using hj
      obtain ⟨arr2, t2, r2, h4, h5⟩ := cell_block (hcell j xs[j] (by simp))
      rw [h2] at h4
      injection h4 with h4
      injection h4 with h4
      subst h4
      rw [List.getElem?_drop, List.getElem?_eq_getElem hj]
      simpa using h5
    · rename_i hj
      rw [List.getElem?_eq_none]
      rw [h1]; simpa using hj
  rw [e]
  exact cells_vcs hC hc
theorem ints_vc {w : World} {v : Value} {l : List Int} (h : Ints w (Lt w) v l) : VC (baseM w) (intsA false l) [v] [] :=
  sl_vc (f := iA) (by decide) (fun c x hc => ⟨⟨hc, rfl⟩, rfl⟩) (fun _ => rfl) h
theorem vts_nil {m : Mem} : VTs m [] [] [] := ⟨rfl, rfl⟩
theorem vts_int {m : Mem} {l : List AV} {us : List Value} {x : Int} (k : VTs m l us []) : VTs m (iA x :: l) (.int .i64 x :: us) [] := (VTs_cons rfl).2 ⟨_, _, [], [], rfl, rfl, ⟨⟨rfl, rfl⟩, rfl⟩, k⟩
theorem vts_ints {w : World} {v : Value} {z : List Int} {l : List AV} {us : List Value} (h : Ints w (Lt w) v z) (k : VTs (baseM w) l us []) : VTs (baseM w) (intsA false z :: l) (v :: us) [] := (VTs_cons rfl).2 ⟨_, _, [], [], rfl, rfl, ints_vc h, k⟩
end Go.Proofs.Ytanokoededdceaa

namespace Go.Proofs.Ytanokoededdceaa
set_option linter.unusedVariables false
open Go.RowKit
theorem entNeqS (a b : Int) (w : World) : (binOp .neq 31 (.agg [Value.int .i64 a, Value.int .i64 b].toArray) (.agg [Value.int .i64 a, Value.int .i64 b].toArray)).run Try.prog w = .ok (.bool false) w := by
  have h := eq_twoF (P := Try.prog) (t := 31) 9998 (by kernel_rfl) (by kernel_rfl) (by kernel_rfl) a b a b w
  rw [run_neq_struct]
  have e : (Op.equalIn 10000 31 (.agg [Value.int .i64 a, Value.int .i64 b].toArray) (.agg [Value.int .i64 a, Value.int .i64 b].toArray)).run Try.prog w = _ := h
  rw [e, Result.andThen_ok]
  simp
/-- Which numbers are in a list. -/
def dnL (L : List Int) (n : Nat) : List Bool := (List.range n).map fun (u : Nat) => decide ((u : Int) ∈ L)
theorem dnL_at {L : List Int} {n u : Nat} (h : u < n) : ((dnL L n).map bA)[u]? = some (bA (decide ((u : Int) ∈ L))) := by simp [dnL, h]
theorem dnL_nil (n : Nat) : (dnL [] n).map bA = List.replicate n (bA false) := by
  refine List.ext_getElem? fun u => ?_
  by_cases h : u < n
  · rw [dnL_at h]; simp [h]
  · rw [List.getElem?_eq_none (by simp [dnL]; omega), List.getElem?_eq_none (by simp; omega)]
theorem dnL_set {L : List Int} {n t : Nat} (h : t < n) : ((dnL L n).map bA).set t (bA true) = (dnL (L ++ [(t : Int)]) n).map bA := by
  refine List.ext_getElem? fun u => ?_
  by_cases hu : u < n
  · rw [dnL_at hu]
    by_cases e : t = u
    · subst e
      rw [List.getElem?_set_self (by simp [dnL]; omega)]
      simp
    · rw [List.getElem?_set_ne e, dnL_at hu]
      congr 2
      simp only [List.mem_append, List.mem_singleton]
      have : ¬ ((u : Int) = (t : Int)) := fun h => e (by omega)
      simp [this]
  · rw [List.getElem?_eq_none (by simp [dnL]; omega), List.getElem?_eq_none (by simp [dnL]; omega)]
/-- x is the place of the least of the first u numbers that are not in L; -1: there is none. -/
def LeastI (rs L : List Int) (u : Nat) (x : Int) : Prop := (x = -1 ∧ ∀ v : Nat, v < u → (v : Int) ∈ L) ∨ ∃ (t : Nat) (r : Int), t < u ∧ x = t ∧ rs[t]? = some r ∧ (t : Int) ∉ L ∧ ∀ (v : Nat) (s : Int), v < u → rs[v]? = some s → (v : Int) ∉ L → r < s ∨ r = s ∧ t ≤ v
theorem LeastI.nil (rs L : List Int) : LeastI rs L 0 (-1) := .inl ⟨rfl, fun v h => absurd h (Nat.not_lt_zero v)⟩
theorem LeastI.skip {rs L : List Int} {u : Nat} {x : Int} (h : LeastI rs L u x) (hu : (u : Int) ∈ L) : LeastI rs L (u + 1) x := by
  rcases h with ⟨e, h⟩ | ⟨t, r, h1, h2, h3, h4, h5⟩
  · refine .inl ⟨e, fun v hv => ?_⟩
    by_cases e : v = u
    · subst e; exact hu
    · exact h v (by omega)
  · refine .inr ⟨t, r, by omega, h2, h3, h4, fun v s hv hs hn => ?_⟩
    by_cases e : v = u
    · subst e; exact absurd hu hn
    · exact h5 v s (by omega) hs hn
theorem LeastI.first {rs L : List Int} {u : Nat} {r : Int} (h : LeastI rs L u (-1)) (hr : rs[u]? = some r) (hu : (u : Int) ∉ L) : LeastI rs L (u + 1) u := by
  rcases h with ⟨_, h⟩ | ⟨t, r', h1, h2, _⟩
  · refine .inr ⟨u, r, by omega, rfl, hr, hu, fun v s hv hs hn => ?_⟩
    by_cases e : v = u
    · subst e
      rw [hr] at hs
      injection hs with hs
      exact .inr ⟨hs, Nat.le_refl _⟩
    · exact absurd (h v (by omega)) hn
  · omega
theorem LeastI.less {rs L : List Int} {u t : Nat} {r q : Int} (h : LeastI rs L u (t : Int)) (hq : rs[t]? = some q) (hr : rs[u]? = some r) (hu : (u : Int) ∉ L) (hl : r < q) : LeastI rs L (u + 1) u := by
  rcases h with ⟨e, _⟩ | ⟨t', r', h1, h2, h3, h4, h5⟩
  · omega
  · have e : t = t' := by omega
    subst e
    rw [hq] at h3
    injection h3 with h3
    subst h3
    refine .inr ⟨u, r, by omega, rfl, hr, hu, fun v s hv hs hn => ?_⟩
    by_cases e : v = u
    · subst e
      rw [hr] at hs
      injection hs with hs
      exact .inr ⟨hs, Nat.le_refl _⟩
    · have := h5 v s (by omega) hs hn
      exact .inl (by omega)
theorem LeastI.more {rs L : List Int} {u t : Nat} {r q : Int} (h : LeastI rs L u (t : Int)) (hq : rs[t]? = some q) (hr : rs[u]? = some r) (hl : ¬ r < q) : LeastI rs L (u + 1) t := by
  rcases h with ⟨e, _⟩ | ⟨t', r', h1, h2, h3, h4, h5⟩
  · omega
  · have e : t = t' := by omega
    subst e
    rw [hq] at h3
    injection h3 with h3
    subst h3
    refine .inr ⟨t, q, by omega, rfl, hq, h4, fun v s hv hs hn => ?_⟩
    by_cases e : v = u
    · subst e
      rw [hr] at hs
      injection hs with hs
      omega
    · exact h5 v s (by omega) hs hn
theorem LeastI.uniq {rs : List Int} {j t : Nat} {x r : Int} (h : LeastI rs ((sortH rs).take j) rs.length x) (ht : (sortH rs)[j]? = some (t : Int)) (hr : rs[t]? = some r) : x = t := by
  obtain ⟨l1, l2⟩ := sortH_least ht hr
  have htl := (List.getElem?_eq_some_iff.1 hr).1
  rcases h with ⟨e, h⟩ | ⟨t', r', h1, h2, h3, h4, h5⟩
  · exact absurd (h t htl) l1
  · have a := l2 t' r' h3 h4
    have b := h5 t r htl hr l1
    omega
/-- The number of an item. -/
def rankF (w : Wd) (k : Int) (it : Item) : Int := if (getOf w it.ent k).2 = 0 then (getOf w it.ent k).1.headD 0 else 0
def ranksF (w : Wd) (k : Int) : List Int := w.items.map (rankF w k)
theorem ranksF_take {w : Wd} {k : Int} {i : Nat} (h : i < w.items.length) : (ranksF w k).take (i + 1) = (ranksF w k).take i ++ [rankF w k w.items[i]] := by
  rw [List.take_succ_eq_append_getElem (by simp [ranksF, h])]
  simp [ranksF]
theorem ints_frz (l : List Int) : AV.frzs (l.map iA) = l.map iA := (inferInstance : Frzs (l.map iA) (l.map iA)).h
set_option maxRecDepth 8000 in
set_option maxHeartbeats 4000000 in
theorem topSortedWorld_ps (l : List Int) (n : Int) (hl : l.length * 8 ≤ 140737488351232) (h1 : I64 n) : PS Try.prog 3 [intsA false l, iA n] (bA true) := by
  have hwp := world_ps l
  have hok := genWorld_ok l
  have hsm := genWorld_small l
  have hks := genWorld_ks l
  obtain ⟨w, hw⟩ : ∃ w, genWorld l = w := ⟨_, rfl⟩
  rw [hw] at hwp hok hsm hks
  clear hw
  have hL := hok.wl
  have hkm : (w.kinds.map (kindA false)).length = w.kinds.length := List.length_map _
  obtain ⟨k, hk, hkl⟩ := idx_of n hks.1
  have hb := below_ps n (w.kinds.map (kindA false)).length (by omega) (by omega)
  rw [hkm, hk, ← hkm] at hb
  have him : (w.items.map (itemA false)).length = w.items.length := List.length_map _
  have hrl : (ranksF w k).length = w.items.length := by simp [ranksF]
  refine Spec.of (nt := 175) (res := [.tmp 4]) Try.func3 rfl (by kernel_rfl) rfl rfl rfl fun Sf => ?_
  (repeat refine WF ?_); refine AWP.region ?_; (repeat (first | refine WO ?_ | refine All.i fun X => ?_ | refine AllY.i fun Y => ?_)); refine AOps.nil ?_; (repeat refine WN ?_)
  (repeat (first | (refine AOps.gN ?_; first | (refine AOps.g_callf ?_; first | refine AOps.c0 (h := (h6begun_ps ..)) (k := ?_))) | refine WK ?_ | refine All.i fun X => ?_ | refine AllY.i fun Y => ?_))
  refine AWP.cond_f rfl rfl ?_
  (repeat first | refine AOps.nil ?_ | refine WF ?_)
  (repeat refine WF ?_); refine AWP.region ?_; (repeat (first | (refine AOps.gN ?_; first | (refine AOps.g_callf ?_; first | refine AOps.c1 (h := (hwp ..)) (k := ?_))) | refine WO ?_ | refine All.i fun R5 => ?_ | refine AllY.i fun Y => ?_)); refine AOps.nil ?_; (repeat refine WN ?_)
  (repeat first | refine AOps.nil ?_ | refine WF ?_)
  (repeat refine WF ?_); refine AWP.region ?_; (repeat (first | (refine AOps.gN ?_; first | (refine AOps.g_callf ?_; first | refine AOps.c2 (h := (hb ..)) (k := ?_))) | refine WO ?_ | refine All.i fun X => ?_ | refine AllY.i fun Y => ?_)); refine AOps.nil ?_; (repeat refine WN ?_)
  (repeat (first | refine WK ?_ | refine All.i fun X => ?_ | refine AllY.i fun Y => ?_))
  refine AWP.adopt (d := 6) 3 1 rfl fun O => ?_
  refine AWP.lp2 (fun (i O : Nat) => ⟨[(1, iA k), (5, .ptr R5 0 0), (6, .sl O 0 i), (35, itemsA false false w.items), (36, iA (w.items.map (itemA false)).length), (37, iA i)], (O, .row 3 1 (((ranksF w k).take i).map iA)) :: (R5, .row 27 3 [wdA false w]) :: Sf⟩) (fun i _ => i ≤ w.items.length) (fun i _ => w.items.length - i) 0 O (Nat.zero_le _) ?_
  rintro i O' hi
  (repeat (first | refine WK ?_ | refine All.i fun X => ?_ | refine AllY.i fun Y => ?_))
  refine AWP.cond rfl (fun hc => ?_) (fun hc => ?_)
  · have h : i < w.items.length := by rw [decide_eq_true_eq, him] at hc; omega
    have hrt := ranksF_take (k := (k : Int)) h
    have hrm : (((ranksF w k).take i).map iA).length = i := by rw [List.length_map, List.length_take]; omega
    obtain ⟨⟨⟨en, eg⟩, cs⟩, hx⟩ : ∃ x, w.items[i] = x := ⟨_, rfl⟩
    have hat : (w.items.map (itemA false))[i]? = some (itemA false ⟨⟨en, eg⟩, cs⟩) := by rw [List.getElem?_map, List.getElem?_eq_getElem h, hx]; rfl
    rw [hx] at hrt
    unfold rankF at hrt
    dsimp only at hrt
    have hge := get_ps w ⟨en, eg⟩ k hL
    obtain ⟨⟨vs, er⟩, hg⟩ : ∃ g, getOf w ⟨en, eg⟩ k = g := ⟨_, rfl⟩
    rw [hg] at hge hrt
    dsimp only at hge hrt
    clear hg
    (repeat refine WF ?_); refine AWP.region ?_; (repeat (first | refine WO ?_ | refine All.i fun R8 => ?_ | refine AllY.i fun Y => ?_)); refine AOps.nil ?_; (repeat refine WN ?_)
    (repeat first | refine AOps.nil ?_ | refine WF ?_)
    (repeat refine WF ?_); refine AWP.region ?_; (repeat (first | (refine AOps.gN ?_; first | (refine AOps.g_callf ?_; first | refine AOps.c3 (h := (hge ..)) (k := ?_))) | refine WO ?_ | refine All.i fun X => ?_ | refine AllY.i fun Y => ?_)); refine AOps.nil ?_; (repeat refine WN ?_)
    (repeat first | refine AOps.nil ?_ | refine WF ?_)
    by_cases her : er = 0
    · subst her
      rw [if_pos rfl] at hrt
      match vs, hge, hrt with
      | [], hge, hrt =>
        (repeat refine WF ?_); refine AWP.region ?_; (repeat (first | refine WO ?_ | refine All.i fun X => ?_ | refine AllY.i fun Y => ?_)); refine AOps.nil ?_; (repeat refine WN ?_)
        refine AWP.cond_f rfl rfl ?_
        (repeat (first | refine WK ?_ | refine All.i fun X => ?_ | refine AllY.i fun Y => ?_))
        refine lp_next2 (i + 1) Y h (by omega) ⟨by exact Lk.f, ?_⟩
        rw [hrt, List.map_append]
        exact Sub.f
      | x :: vs', hge, hrt =>
        have hd : decide ((((x :: vs').map iA).length : Int) > 0) = true := decide_eq_true (by simp only [List.map_cons, List.length_cons]; omega)
        have hd2 : decide ((0 : Int) < (((x :: vs').map iA).length : Int)) = true := decide_eq_true (by simp only [List.map_cons, List.length_cons]; omega)
        have a0 : ((x :: vs').map iA)[0]? = some (iA x) := rfl
        (repeat refine WF ?_); refine AWP.region ?_; (repeat (first | refine WO ?_ | refine All.i fun X => ?_ | refine AllY.i fun Y => ?_)); refine AOps.nil ?_; (repeat refine WN ?_)
        refine AWP.cond_t rfl (by first | rfl | assumption) ?_
        (repeat (first | refine WK ?_ | refine All.i fun X => ?_ | refine AllY.i fun Y => ?_))
        refine lp_next2 (i + 1) Y h (by omega) ⟨by exact Lk.f, ?_⟩
        rw [hrt, List.map_append]
        exact Sub.f
    · have hd : decide (er = 0) = false := decide_eq_false her
      rw [if_neg her] at hrt
      (repeat refine WF ?_); refine AWP.region ?_; (repeat (first | refine WO ?_ | refine All.i fun X => ?_ | refine AllY.i fun Y => ?_)); refine AOps.nil ?_; (repeat refine WN ?_)
      refine AWP.cond_f rfl (by first | rfl | assumption) ?_
      (repeat (first | refine WK ?_ | refine All.i fun X => ?_ | refine AllY.i fun Y => ?_))
      refine lp_next2 (i + 1) Y h (by omega) ⟨by exact Lk.f, ?_⟩
      rw [hrt, List.map_append]
      exact Sub.f
  · have h : i = w.items.length := by rw [decide_eq_false_iff_not, him] at hc; omega
    rw [h]
    have htk : (ranksF w k).take w.items.length = ranksF w k := List.take_of_length_le (by omega)
    rw [htk]
    clear hc hi h htk hb hk
    obtain ⟨rs, hrs⟩ : ∃ r, ranksF w k = r := ⟨_, rfl⟩
    rw [hrs] at hrl ⊢
    clear hrs
    have hrm : (rs.map iA).length = w.items.length := by rw [List.length_map, hrl]
    obtain ⟨es, hes⟩ : ∃ e, w.items.map Item.ent = e := ⟨_, rfl⟩
    have hel : es.length = rs.length := by rw [← hes, List.length_map, hrl]
    have hhl := hiL_len 0 es rs hel
    (repeat first | refine AOps.nil ?_ | refine WF ?_)
    refine AWP.iceL 6 (rs.map iA) (ints_frz rs) ?_
    (repeat refine WF ?_); refine AWP.region ?_; (repeat (first | refine WO ?_ | refine All.i fun Q => ?_ | refine AllY.i fun Y => ?_)); refine AOps.nil ?_; (repeat refine WN ?_)
    (repeat first | refine AOps.nil ?_ | refine WF ?_)
    refine AWP.adoptIn 87 4 .here (fun K => .cons (.agg (.cons (.base .nil) (.cons .same .nil))) .nil) fun H => ?_
    (repeat (first | refine WK ?_ | refine All.i fun X => ?_ | refine AllY.i fun Y => ?_))
    refine AWP.lp2 (fun (i H : Nat) => ⟨[(5, .ptr R5 0 0), (6, intsA false rs), (11, .ptr Q 0 0), (67, itemsA false false w.items), (68, iA (w.items.map (itemA false)).length), (69, iA i)], (H, .row 87 4 ((puts [] ((hiL 0 es rs).take i)).map hiE)) :: (Q, .row 40 2 [.agg [.sl H 0 i, iA i]]) :: (R5, .row 27 3 [wdA false w]) :: Sf⟩) (fun i _ => i ≤ w.items.length) (fun i _ => w.items.length - i) 0 H (Nat.zero_le _) ?_
    rintro i H' hi
    (repeat (first | refine WK ?_ | refine All.i fun X => ?_ | refine AllY.i fun Y => ?_))
    refine AWP.cond rfl (fun hc => ?_) (fun hc => ?_)
    · have h : i < w.items.length := by rw [decide_eq_true_eq, him] at hc; omega
      have hir : i < rs.length := by omega
      obtain ⟨⟨⟨en, eg⟩, cs⟩, hx⟩ : ∃ x, w.items[i]? = some x := ⟨w.items[i], List.getElem?_eq_getElem h⟩
      have hat : (w.items.map (itemA false))[i]? = some (itemA false ⟨⟨en, eg⟩, cs⟩) := by rw [List.getElem?_map, hx]; rfl
      have hee : es[i]? = some ⟨en, eg⟩ := by rw [← hes, List.getElem?_map, hx]; rfl
      have har : (rs.map iA)[i]? = some (iA rs[i]) := by rw [List.getElem?_map, List.getElem?_eq_getElem hir]; rfl
      have hat2 := hiL_at 0 es rs i _ _ hee (List.getElem?_eq_getElem hir)
      rw [Nat.zero_add] at hat2
      have hpt := puts_take (xs := hiL 0 es rs) (i := i) (by omega) []
      rw [(List.getElem?_eq_some_iff.1 hat2).2] at hpt
      have hll : (puts [] ((hiL 0 es rs).take i)).length = i := by rw [puts_len, List.length_take]; omega
      have hpu := putE_sp Q H' i (puts [] ((hiL 0 es rs).take i)) i ⟨en, eg⟩ rs[i] hll.symm (by omega) (by omega)
      rw [← hpt] at hpu
      (repeat refine WF ?_); refine AWP.region ?_; (repeat (first | refine WO ?_ | refine All.i fun R13 => ?_ | refine AllY.i fun Y => ?_)); refine AOps.nil ?_; (repeat refine WN ?_)
      (repeat first | refine AOps.nil ?_ | refine WF ?_)
      (repeat refine WF ?_); refine AWP.region_tail 6 (by kernel_rfl) (by kernel_rfl) (by kernel_rfl) ?_; dsimp only [List.take, List.drop]; (repeat (first | refine RK ?_ | refine RGo.nil (by kernel_rfl) ?_))
      refine AOps.eQ3 (h := hpu) fun K => ?_
      (repeat (first | refine WO ?_ | refine All.i fun X => ?_ | refine AllY.i fun Y => ?_))
      (repeat first | refine AOps.nil ?_ | refine WF ?_)
      refine AWP.cond_f rfl rfl ?_
      (repeat (first | refine WK ?_ | refine All.i fun X => ?_ | refine AllY.i fun Y => ?_))
      refine lp_next2 (i + 1) K h
    · have h : i = w.items.length := by rw [decide_eq_false_iff_not, him] at hc; omega
      rw [h]
      clear hc hi h
      have htk : (hiL 0 es rs).take w.items.length = hiL 0 es rs := List.take_of_length_le (by omega)
      rw [htk]
      have hM0 : (puts [] (hiL 0 es rs)).length = rs.length := by rw [puts_len, hhl, hel]
      have hD : drain rs.length (puts [] (hiL 0 es rs)) = (sortD es rs).drop 0 := by unfold sortD; rw [hel, List.drop_zero]
      obtain ⟨M0, hMe⟩ : ∃ M, puts [] (hiL 0 es rs) = M := ⟨_, rfl⟩
      rw [hMe] at hM0 hD ⊢
      clear htk hMe
      have hqs := qsort_ps rs (by omega)
      have hsl := sortH_len rs
      have hsm2 : ((sortH rs).map iA).length = rs.length := by rw [List.length_map, hsl]
      have hcl := cloneI_ps rs (by omega)
      have k2 : decide ((((sortH rs).map iA).length : Int) ≠ ((rs.map iA).length : Int)) = false := decide_eq_false (by rw [hsm2, hrm, hrl]; simp)
      (repeat first | refine AOps.nil ?_ | refine WF ?_)
      (repeat refine WF ?_); refine AWP.region ?_; (repeat (first | (refine AOps.gN ?_; first | (refine AOps.g_callf ?_; first | refine AOps.c1 (h := (hqs ..)) (k := ?_))) | refine WO ?_ | refine All.i fun X => ?_ | refine AllY.i fun Y => ?_)); refine AOps.nil ?_; (repeat refine WN ?_)
      (repeat (first | refine WK ?_ | refine All.i fun X => ?_ | refine AllY.i fun Y => ?_))
      refine AWP.cond_f rfl (by first | rfl | assumption) ?_
      (repeat first | refine AOps.nil ?_ | refine WF ?_)
      (repeat refine WF ?_); refine AWP.region ?_; (repeat (first | (refine AOps.gN ?_; first | (refine AOps.g_callf ?_; first | refine AOps.c1 (h := (hcl ..)) (k := ?_))) | refine WO ?_ | refine All.i fun X => ?_ | refine AllY.i fun Y => ?_)); refine AOps.nil ?_; (repeat refine WN ?_)
      (repeat first | refine AOps.nil ?_ | refine WF ?_)
      (repeat refine WF ?_); refine AWP.region ?_; (repeat (first | (refine AOps.gN ?_; first | (refine AOps.g_make ?_; refine AOps.goM (bA false) fun K => ?_)) | refine WO ?_ | refine All.i fun X => ?_ | refine AllY.i fun Y => ?_)); refine AOps.nil ?_; (repeat refine WN ?_)
      obtain ⟨N, hN⟩ : ∃ N, w.items.length = N := ⟨_, rfl⟩
      refine AWP.as [(5, .ptr R5 0 0), (11, .ptr Q 0 0), (14, intsA false (sortH rs)), (16, intsA false rs), (17, .sl K 0 (rs.map iA).length)] ((K, .row 4 1 (List.replicate (rs.map iA).length (bA false))) :: (H', .row 87 4 (M0.map hiE)) :: (Q, .row 40 2 [.agg [.sl H' 0 w.items.length, iA w.items.length]]) :: (R5, .row 27 3 [wdA false w]) :: Sf) ?_
      rw [hrm, ← dnL_nil]
      rw [hN] at hrl hrm hsm ⊢
      rw [hrl] at hM0 hD hsl hsm2
      (repeat (first | refine WK ?_ | refine All.i fun X => ?_ | refine AllY.i fun Y => ?_))
      refine AWP.lp2 (fun (j : Nat) (M : List (HI Ent)) => ⟨[(5, .ptr R5 0 0), (11, .ptr Q 0 0), (16, intsA false rs), (17, .sl K 0 N), (102, intsA false (sortH rs)), (103, iA ((sortH rs).map iA).length), (104, iA j)], (K, .row 4 1 ((dnL ((sortH rs).take j) N).map bA)) :: (H', .row 87 4 (M.map hiE)) :: (Q, .row 40 2 [.agg [.sl H' 0 (N - j), iA N]]) :: (R5, .row 27 3 [wdA false w]) :: Sf⟩) (fun j M => j ≤ N ∧ M.length = N - j ∧ drain (N - j) M = (sortD es rs).drop j) (fun j _ => N - j) 0 M0 ⟨Nat.zero_le _, hM0, hD⟩ ?_
      clear hM0 hD hqs hcl k2
      rintro j M ⟨hj, hM, hD⟩
      (repeat (first | refine WK ?_ | refine All.i fun X => ?_ | refine AllY.i fun Y => ?_))
      refine AWP.cond rfl (fun hc => ?_) (fun hc => ?_)
      · have h : j < N := by rw [decide_eq_true_eq, hsm2] at hc; omega
        clear hc
        obtain ⟨t, v, r, e1, e2, e3, e4⟩ := sortD_at (vs := es) hel (j := j) (by omega)
        obtain ⟨d1, d2, d3⟩ := drain_step hM hD e3
        obtain ⟨en, eg⟩ := v
        have ht : t < N := by have := (List.getElem?_eq_some_iff.1 e2).1; omega
        have hat : ((sortH rs).map iA)[j]? = some (iA t) := by rw [List.getElem?_map, e4]; rfl
        obtain ⟨hnt, _⟩ := sortH_least e4 e2
        (repeat (first | refine WK ?_ | refine All.i fun X => ?_ | refine AllY.i fun Y => ?_))
        refine AWP.lp2 (fun (u : Nat) (x : Int) => ⟨[(5, .ptr R5 0 0), (11, .ptr Q 0 0), (16, intsA false rs), (17, .sl K 0 N), (102, intsA false (sortH rs)), (103, iA ((sortH rs).map iA).length), (104, iA j), (19, iA t), (20, iA x), (109, iA (rs.map iA).length), (110, iA u)], (K, .row 4 1 ((dnL ((sortH rs).take j) N).map bA)) :: (H', .row 87 4 (M.map hiE)) :: (Q, .row 40 2 [.agg [.sl H' 0 (N - j), iA N]]) :: (R5, .row 27 3 [wdA false w]) :: Sf⟩) (fun u x => u ≤ N ∧ LeastI rs ((sortH rs).take j) u x) (fun u _ => N - u) 0 (-1) ⟨Nat.zero_le _, .nil _ _⟩ ?_
        rintro u x ⟨hu, hx⟩
        (repeat (first | refine WK ?_ | refine All.i fun X => ?_ | refine AllY.i fun Y => ?_))
        refine AWP.cond rfl (fun hc => ?_) (fun hc => ?_)
        · have hul : u < N := by rw [decide_eq_true_eq, hrm] at hc; omega
          clear hc
          have hda := dnL_at (L := (sortH rs).take j) hul
          obtain ⟨q, hq⟩ : ∃ q, rs[u]? = some q := ⟨rs[u]'(by omega), List.getElem?_eq_getElem (by omega)⟩
          have haq : (rs.map iA)[u]? = some (iA q) := by rw [List.getElem?_map, hq]; rfl
          by_cases hin : (u : Int) ∈ (sortH rs).take j
          · rw [decide_eq_true hin] at hda
            (repeat refine WF ?_); refine AWP.region ?_; (repeat (first | refine WO ?_ | refine All.i fun X => ?_ | refine AllY.i fun Y => ?_)); refine AOps.nil ?_; (repeat refine WN ?_)
            (repeat first | refine AOps.nil ?_ | refine WF ?_)
            (repeat refine WF ?_); refine AWP.region_run (by kernel_rfl) (by kernel_rfl) ?_; (repeat (first | (refine RGo.gQ ?_; first | refine RGo.goNU ?_ | refine RGo.goNV ?_) | refine RK ?_ | refine RGo.nil (by kernel_rfl) ?_))
            (repeat first | refine AOps.nil ?_ | refine WF ?_)
            refine AWP.cond_f rfl rfl ?_
            (repeat (first | refine WK ?_ | refine All.i fun X => ?_ | refine AllY.i fun Y => ?_))
            refine lp_next2 (u + 1) x ⟨hul, hx.skip hin⟩
          · rw [decide_eq_false hin] at hda
            by_cases hx1 : x = -1
            · subst hx1
              (repeat refine WF ?_); refine AWP.region ?_; (repeat (first | refine WO ?_ | refine All.i fun X => ?_ | refine AllY.i fun Y => ?_)); refine AOps.nil ?_; (repeat refine WN ?_)
              (repeat first | refine AOps.nil ?_ | refine WF ?_)
              (repeat refine WF ?_); refine AWP.region_run (by kernel_rfl) (by kernel_rfl) ?_; (repeat (first | (refine RGo.gQ ?_; first | refine RGo.goNU ?_ | refine RGo.goNV ?_) | refine RK ?_ | refine RGo.nil (by kernel_rfl) ?_))
              (repeat first | refine AOps.nil ?_ | refine WF ?_)
              refine AWP.cond_t rfl rfl ?_
              (repeat (first | refine WK ?_ | refine All.i fun X => ?_ | refine AllY.i fun Y => ?_))
              refine lp_next2 (u + 1) (u : Int) ⟨hul, hx.first hq hin⟩
            · obtain ⟨t', r', g1, rfl, g3, g4, _⟩ := hx.resolve_left fun h => hx1 h.1
              have f1 : decide ((t' : Int) < 0) = false := decide_eq_false (by omega)
              have haq2 : (rs.map iA)[t']? = some (iA r') := by rw [List.getElem?_map, g3]; rfl
              by_cases hlt : q < r'
              · have f2 : decide (q < r') = true := decide_eq_true hlt
                (repeat refine WF ?_); refine AWP.region ?_; (repeat (first | refine WO ?_ | refine All.i fun X => ?_ | refine AllY.i fun Y => ?_)); refine AOps.nil ?_; (repeat refine WN ?_)
                (repeat first | refine AOps.nil ?_ | refine WF ?_)
                (repeat refine WF ?_); refine AWP.region_run (by kernel_rfl) (by kernel_rfl) ?_; (repeat (first | (refine RGo.gQ ?_; first | refine RGo.goNU ?_ | refine RGo.goNV ?_) | refine RK ?_ | refine RGo.nil (by kernel_rfl) ?_))
                (repeat first | refine AOps.nil ?_ | refine WF ?_)
                refine AWP.cond_t rfl (by first | rfl | assumption) ?_
                (repeat (first | refine WK ?_ | refine All.i fun X => ?_ | refine AllY.i fun Y => ?_))
                refine lp_next2 (u + 1) (u : Int) ⟨hul, hx.less g3 hq hin hlt⟩
              · have f2 : decide (q < r') = false := decide_eq_false hlt
                (repeat refine WF ?_); refine AWP.region ?_; (repeat (first | refine WO ?_ | refine All.i fun X => ?_ | refine AllY.i fun Y => ?_)); refine AOps.nil ?_; (repeat refine WN ?_)
                (repeat first | refine AOps.nil ?_ | refine WF ?_)
                (repeat refine WF ?_); refine AWP.region_run (by kernel_rfl) (by kernel_rfl) ?_; (repeat (first | (refine RGo.gQ ?_; first | refine RGo.goNU ?_ | refine RGo.goNV ?_) | refine RK ?_ | refine RGo.nil (by kernel_rfl) ?_))
                (repeat first | refine AOps.nil ?_ | refine WF ?_)
                refine AWP.cond_f rfl (by first | rfl | assumption) ?_
                (repeat (first | refine WK ?_ | refine All.i fun X => ?_ | refine AllY.i fun Y => ?_))
                refine lp_next2 (u + 1) (t' : Int) ⟨hul, hx.more g3 hq hlt⟩
        · have hun : u = rs.length := by rw [decide_eq_false_iff_not, hrm] at hc; omega
          subst hun
          have hxt := hx.uniq e4 e2
          subst hxt
          clear hc hu hx
          have htk := takeE_sp Q H' (N - j) M N ⟨en, eg⟩ r (t : Int) hM.symm (by omega) d2
          have hee : es[t]? = some ⟨en, eg⟩ := e1
          rw [← hes, List.getElem?_map] at hee
          obtain ⟨⟨⟨en', eg'⟩, cs⟩, hit⟩ : ∃ it, w.items[t]? = some it := ⟨w.items[t]'(by omega), List.getElem?_eq_getElem (by omega)⟩
          rw [hit] at hee
          injection hee with hee
          injection hee with he1 he2
          subst he1 he2
          have hai : (w.items.map (itemA false))[t]? = some (itemA false ⟨⟨en', eg'⟩, cs⟩) := by rw [List.getElem?_map, hit]; rfl
          have har : (rs.map iA)[t]? = some (iA r) := by rw [List.getElem?_map, e2]; rfl
          have f1 : decide ((t : Int) < 0) = false := decide_eq_false (by omega)
          have f2 : decide ((t : Int) ≠ (t : Int)) = false := by simp
          have f3 : decide (r ≠ r) = false := by simp
          have hda := dnL_at (L := (sortH rs).take j) ht
          rw [decide_eq_false hnt] at hda
          have hds := dnL_set (L := (sortH rs).take j) ht
          have hsj : (sortH rs).take (j + 1) = (sortH rs).take j ++ [(t : Int)] := by
            obtain ⟨q1, q2⟩ := List.getElem?_eq_some_iff.1 e4
            rw [List.take_succ_eq_append_getElem q1, q2]
          rw [← hsj] at hds
          (repeat first | refine AOps.nil ?_ | refine WF ?_)
          (repeat refine WF ?_); refine AWP.region ?_; (repeat (first | (refine AOps.gN ?_; first | (refine AOps.g_callf ?_; first | refine AOps.z1 (h := htk) (hT := .fz) (k := ?_))) | refine WO ?_ | refine All.i fun R22 => ?_ | refine AllY.i fun Y => ?_)); refine AOps.nil ?_; (repeat refine WN ?_)
          (repeat first | refine AOps.nil ?_ | refine WF ?_)
          (repeat refine WF ?_); refine AWP.region_run (by kernel_rfl) (by kernel_rfl) ?_; (repeat (first | (refine RGo.gN ?_; first | refine RGo.go (h := W.neP _ _ (by kernel_rfl) (entNeqS en' eg') rfl rfl) (k := ?_)) | (refine RGo.gQ ?_; first | refine RGo.go (h := W.neP _ _ (by kernel_rfl) (entNeqS en' eg') rfl rfl) (k := ?_)) | refine RK ?_ | refine RGo.nil (by kernel_rfl) ?_))
          (repeat first | refine AOps.nil ?_ | refine WF ?_)
          refine AWP.cond_f rfl (by first | rfl | assumption) ?_
          (repeat (first | refine WK ?_ | refine All.i fun X => ?_ | refine AllY.i fun Y => ?_))
          refine lp_next2 (j + 1) (restM M) ⟨h, by rw [rest_len (by omega)]; omega, d3⟩ (by omega) ⟨by exact Lk.f, ?_⟩
          rw [← hds]
          exact Sub.f
      · have h : j = N := by rw [decide_eq_false_iff_not, hsm2] at hc; omega
        subst h
        have hlen := lenE_sp Q H' (j - j) (j : Int)
        clear hc
        (repeat (first | (refine AOps.gN ?_; first | (refine AOps.g_callf ?_; first | refine AOps.z1 (h := hlen) (hT := .fz) (k := ?_))) | refine WK ?_ | refine All.i fun X => ?_ | refine AllY.i fun Y => ?_))
        (refine AWP.ret ?_; (repeat (first | refine inB_r ?_ | refine andThen_r ?_)); refine retQ_r ?_); refine Ends.ps ?_
        have : decide (((j - j : Nat) : Int) = 0) = true := decide_eq_true (by omega)
        exact congrArg bA this
theorem topSortedWorld_calls (z0 : List Int) (A0 : Option Addr) (n0 cap0 : Nat) (z1 : Int) (w : World) (h0 : Ints w (Lt w) (.slice A0 n0 cap0) z0) (hlen0 : z0.length * 8 ≤ 140737488351232) (hx1 : I64 z1) :
    Calls Try.prog 3 #[.slice A0 n0 cap0, .int .i64 z1] w fun e w' => e = .returned (.bool true) ∧ Below w.heap.size w w' :=
  (topSortedWorld_ps z0 z1 hlen0 hx1).calls_bool (vts_ints h0 (vts_int (vts_nil)))
end Go.Proofs.Ytanokoededdceaa
