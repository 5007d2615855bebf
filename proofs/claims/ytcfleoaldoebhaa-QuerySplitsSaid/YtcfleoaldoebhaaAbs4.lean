/-
  A region whose order is drawn: one run in the text's order, and a look at which operations touch the same things, give every order. No conditions.
-/
import Derived.Test.YtcfleoaldoebhaaAbs3
namespace Go.Proofs.Ytcfleoaldoebhaa
set_option linter.unusedVariables false
variable {ro : Option Nat}
open Go.RowKit

def maskOf (acc : List Nat) (o : Oper) : Nat := o.after.toList.foldl (fun s e => match Region.binds .any e with | true => s ||| 2 ^ e.on ||| acc.getD e.on 0 | false => s) 0
def masks : List Oper → List Nat → List Nat
  | [], acc => acc
  | o :: r, acc => masks r (acc ++ [maskOf acc o])
def down : List Oper → Nat → Bool
  | [], _ => true
  | o :: r, k => o.after.toList.all (fun e => !Region.binds .any e || Nat.blt e.on k) && down r (k + 1)
def memD : Option Nat → List Nat → Bool
  | none, _ => false
  | some d, l => l.any (Nat.beq d)
def sameD : Option Nat → Option Nat → Bool
  | some d, some e => Nat.beq d e
  | _, _ => false
def meet (a b : List Nat) : Bool := a.any fun x => b.any (Nat.beq x)
def clash (a b : Eff) : Bool :=
  memD a.o.dst b.rT || memD b.o.dst a.rT || sameD a.o.dst b.o.dst || meet (a.wS.map (·.1)) b.rS || meet (b.wS.map (·.1)) a.rS || meet (a.wS.map (·.1)) (b.wS.map (·.1))
def compat (effs : List Eff) (ms : List Nat) : Bool :=
  (List.range effs.length).all fun j => (List.range j).all fun i => match effs[i]?, effs[j]?, ms[j]? with
    | some a, some b, some m => !clash a b || m.testBit i
    | _, _, _ => false

section
theorem fold_bits (acc : List Nat) (i : Nat) : ∀ (l : List Edge) (s : Nat), (l.foldl (fun s e => match Region.binds .any e with | true => s ||| 2 ^ e.on ||| acc.getD e.on 0 | false => s) s).testBit i = true →
    s.testBit i = true ∨ ∃ e ∈ l, Region.binds .any e = true ∧ (i = e.on ∨ (acc.getD e.on 0).testBit i = true) := by
  intro l
  induction l with
  | nil => intro s h; exact .inl h
  | cons e l ih =>
    intro s h
    simp only [List.foldl_cons] at h
    rcases ih _ h with h | ⟨e', h1, h2, h3⟩
    · cases hb : Region.binds .any e
      · rw [hb] at h; exact .inl h
      · rw [hb] at h
        simp only [Nat.testBit_or, Nat.testBit_two_pow, Bool.or_eq_true, decide_eq_true_eq] at h
        rcases h with (h | h) | h
        · exact .inl h
        · exact .inr ⟨e, by simp, hb, .inl h.symm⟩
        · exact .inr ⟨e, by simp, hb, .inr h⟩
    · exact .inr ⟨e', by simp [h1], h2, h3⟩
theorem masks_spec (X : Nat → Bool) : ∀ (r : List Oper) (acc : List Nat) (h : ∀ j o, r[j]? = some o → X (acc.length + j) = true → ∀ e ∈ o.after.toList, Region.binds .any e = true → X e.on = true)
    (hacc : ∀ j m, acc[j]? = some m → X j = true → ∀ i, m.testBit i = true → X i = true), ∀ j m, (masks r acc)[j]? = some m → X j = true → ∀ i, m.testBit i = true → X i = true := by
  intro r
  induction r with
  | nil => intro acc h hacc; exact hacc
  | cons o r ih =>
    intro acc h hacc
    simp only [masks]
    refine ih _ ?_ ?_
    · intro j o' hj hX
      refine h (j + 1) o' (by simpa using hj) ?_
      rw [List.length_append, List.length_singleton, show acc.length + 1 + j = acc.length + (j + 1) from by omega] at hX
      exact hX
    · intro j m hj hX i hi
      rcases Nat.lt_trichotomy j acc.length with hlt | heq | hgt
      · rw [List.getElem?_append_left hlt] at hj
        exact hacc j m hj hX i hi
      · subst heq
        rw [List.getElem?_append_right (Nat.le_refl _), Nat.sub_self] at hj
        simp at hj
        subst hj
        rcases fold_bits acc i _ 0 hi with h0 | ⟨e, he, hb, h0⟩
        · simp at h0
        · have hon := h 0 o rfl (by simpa using hX) e he hb
          rcases h0 with rfl | h0
          · exact hon
          · rw [List.getD_eq_getElem?_getD] at h0
            cases hm : acc[e.on]? with
            | none => rw [hm] at h0; simp at h0
            | some m' => rw [hm] at h0; exact hacc e.on m' hm hon i h0
      · rw [List.getElem?_eq_none (by simp; omega)] at hj
        cases hj
theorem down_spec : ∀ (r : List Oper) (k : Nat), down r k = true → ∀ j o, r[j]? = some o → ∀ e ∈ o.after.toList, Region.binds .any e = true → e.on < k + j := by
  intro r
  induction r with
  | nil => intro k _ j o h; simp at h
  | cons o r ih =>
    intro k h j o' hj e he hb
    simp only [down, Bool.and_eq_true] at h
    cases j with
    | zero =>
      simp at hj
      subst hj
      have := List.all_eq_true.1 h.1 e he
      simpa [hb, Nat.blt_eq] using this
    | succ j =>
      have := ih (k + 1) h.2 j o' (by simpa using hj) e he hb
      omega
theorem clash_spec {a b : Eff} (h : clash a b = false) : (∀ d, a.o.dst = some d → d ∉ b.rT) ∧ (∀ d, b.o.dst = some d → d ∉ a.rT) ∧ (∀ d, a.o.dst = some d → b.o.dst ≠ some d) ∧
    (∀ q ∈ a.wS, q.1 ∉ b.rS) ∧ (∀ q ∈ b.wS, q.1 ∉ a.rS) ∧ (∀ q ∈ a.wS, ∀ q' ∈ b.wS, q.1 ≠ q'.1) := by
  simp only [clash, Bool.or_eq_false_iff] at h
  obtain ⟨⟨⟨⟨⟨h1, h2⟩, h3⟩, h4⟩, h5⟩, h6⟩ := h
  have bq : ∀ x y : Nat, Nat.beq x y = false → x ≠ y := fun x y h e => by subst e; simp at h
  refine ⟨fun d hd hm => ?_, fun d hd hm => ?_, fun d hd he => ?_, fun q hq hm => ?_, fun q hq hm => ?_, fun q hq q' hq' e => ?_⟩
  · rw [hd] at h1
    simp only [memD, List.any_eq_false] at h1
    exact h1 d hm (by simp)
  · rw [hd] at h2
    simp only [memD, List.any_eq_false] at h2
    exact h2 d hm (by simp)
  · rw [hd, he] at h3
    exact bq d d h3 rfl
  · simp only [meet, List.any_eq_false, List.mem_map, Bool.not_eq_true] at h4
    exact bq _ _ (h4 q.1 ⟨q, hq, rfl⟩ q.1 hm) rfl
  · simp only [meet, List.any_eq_false, List.mem_map, Bool.not_eq_true] at h5
    exact bq _ _ (h5 q.1 ⟨q, hq, rfl⟩ q.1 hm) rfl
  · simp only [meet, List.any_eq_false, List.mem_map, Bool.not_eq_true] at h6
    exact bq _ _ (h6 q.1 ⟨q, hq, rfl⟩ q'.1 ⟨q', hq', rfl⟩) e
end

/-- The operation may be carried out wherever what it reads is as in st. -/
def LocOK (P : Program) (nt : Nat) (ops : Array Oper) (e : Eff) (st : St) : Prop :=
  ∀ m0 T S a w, (∀ t ∈ e.rT, look T t = look st.T t) → (∀ p ∈ e.rS, S[p]? = st.S[p]?) → Rel nt m0 ⟨T, S⟩ a w →
    if Region.wanted e.o (yielded ops a.tmps) then e.o.wp P a w (fun a' w' => Rel nt m0 (e.app ⟨T, S⟩) a' w') (fun _ _ _ => False) else Rel nt m0 (e.app ⟨T, S⟩) (a.put e.o.dst undef) w

def tmpsOf (xs : List (Operand × AV)) : List Nat := xs.filterMap fun q => match q.1 with | .tmp t => some t | _ => none
inductive Run (P : Program) (nt : Nat) (ops : Array Oper) : List Oper → St → List Eff → St → Prop
  | nil {st : St} : Run P nt ops [] st [] st
  | step {o : Oper} {rest : List Oper} {st st' : St} {xs : List (Operand × AV)} {rS : List (Nat × Slot)} {v : AV} {wS : List (Nat × Slot)} {effs : List Eff} (hg : o.guard = none) (h : OpT P o xs rS v wS) (hx : Evs st.T xs) (hS : Gets st.S rS) (hd : dstOk o.dst nt = true)
      (k : Run P nt ops rest ⟨putD st.T o.dst v, setAll st.S wS⟩ effs st') : Run P nt ops (o :: rest) st (⟨o, tmpsOf xs, rS.map (·.1), v, wS⟩ :: effs) st'
  | stepG {o : Oper} {rest : List Oper} {st st' : St} {xs : List (Operand × AV)} {rS : List (Nat × Slot)} {v : AV} {wS : List (Nat × Slot)} {effs : List Eff} {g : Nat} {b b' : Bool} {t : Nat} (hg : o.guard = some (g, b)) (ht : (ops[g]?).bind (·.dst) = some t) (hv : look st.T t = some (.prim (.bool b'))) (hb : b' = b)
      (h : OpT P o xs rS v wS) (hx : Evs st.T xs) (hS : Gets st.S rS) (hd : dstOk o.dst nt = true)
      (k : Run P nt ops rest ⟨putD st.T o.dst v, setAll st.S wS⟩ effs st') : Run P nt ops (o :: rest) st (⟨o, t :: tmpsOf xs, rS.map (·.1), v, wS⟩ :: effs) st'
  | skipG {o : Oper} {rest : List Oper} {st st' : St} {effs : List Eff} {g : Nat} {b b' : Bool} {t : Nat} (hg : o.guard = some (g, b)) (ht : (ops[g]?).bind (·.dst) = some t) (hv : look st.T t = some (.prim (.bool b'))) (hb : b' = !b) (hd : dstOk o.dst nt = true)
      (k : Run P nt ops rest ⟨putD st.T o.dst .dead, st.S⟩ effs st') : Run P nt ops (o :: rest) st (⟨o, [t], [], .dead, []⟩ :: effs) st'
  | stepQ {o : Oper} {rest : List Oper} {st st' : St} {xs : List (Operand × AV)} {rS : List (Nat × Slot)} {v : AV} {effs : List Eff} {g : Nat} {b b' : Bool} {t : Nat} {wg : AV} {cs : List Bool} (hg : o.guard = some (g, b)) (ht : (ops[g]?).bind (·.dst) = some t) (hv : look st.T t = some wg) (hc : condOf wg = some (cs, b'))
      (h : (∀ c ∈ cs ++ [b' == b], c = true) → OpT P o xs rS v []) (hx : EvCs (cs ++ [b' == b]) st.T xs) (hS : Gets st.S rS) (hd : dstOk o.dst nt = true) (hos : onceT xs = true) (k : Run P nt ops rest ⟨putD st.T o.dst (mkOpt (cs ++ [b' == b]) v), st.S⟩ effs st') : Run P nt ops (o :: rest) st (⟨o, t :: tmpsOf xs, rS.map (·.1), mkOpt (cs ++ [b' == b]) v, []⟩ :: effs) st'

section
variable {P : Program} {nt : Nat} {ops : Array Oper}
theorem evs_local {st : St} {T : List (Nat × AV)} {xs : List (Operand × AV)} (hx : Evs st.T xs) (h : ∀ t ∈ tmpsOf xs, look T t = look st.T t) : ∀ q ∈ xs, ev T q.1 = some q.2 := by
  intro q hq
  have h0 := hx.all q hq
  rcases hq1 : q.1 with t | c | g | f
  · rw [hq1] at h0
    show look T t = _
    rw [h t (List.mem_filterMap.2 ⟨q, hq, by simp [hq1]⟩)]
    exact h0
  all_goals rw [hq1] at h0; exact h0
theorem evcs_local {cs : List Bool} {st : St} {T : List (Nat × AV)} {xs : List (Operand × AV)} (hx : EvCs cs st.T xs) (h : ∀ t ∈ tmpsOf xs, look T t = look st.T t) : ∀ q ∈ xs, ∃ w, ev T q.1 = some w ∧ Strips cs w q.2 := by
  intro q hq
  obtain ⟨w, h0, hs⟩ := hx.all q hq
  refine ⟨w, ?_, hs⟩
  rcases hq1 : q.1 with t | c | g | f
  · rw [hq1] at h0
    show look T t = _
    rw [h t (List.mem_filterMap.2 ⟨q, hq, by simp [hq1]⟩)]
    exact h0
  all_goals rw [hq1] at h0; exact h0
theorem gets_local {st : St} {S : List Slot} {rS : List (Nat × Slot)} (hS : Gets st.S rS) (h : ∀ p ∈ rS.map (·.1), S[p]? = st.S[p]?) : ∀ q ∈ rS, S[q.1]? = some q.2 :=
  fun q hq => (h q.1 (List.mem_map.2 ⟨q, hq, rfl⟩)).trans (hS.all q hq)
theorem yield_of {m0 : Mem} {T : List (Nat × AV)} {S : List Slot} {a : Act} {w : World} (hr : Rel nt m0 ⟨T, S⟩ a w) {g t : Nat} {b : Bool} (ht : (ops[g]?).bind (·.dst) = some t) (hv : look T t = some (.prim (.bool b))) : yielded ops a.tmps g = some b := by
  obtain ⟨m, N, Z, h1, h2, h3, h4, h5, h6⟩ := hr
  obtain ⟨u, hu1, hu2⟩ := h6 t _ hv
  obtain ⟨⟨e, _⟩, _⟩ := hu2
  injection e with e
  subst e
  simp [yielded, ht, hu1]
theorem stX_shift (effs : List Eff) (k : Nat) (X : Nat → Bool) (s : St) : stX effs (k + 1) X s = stX effs k (fun j => X (j + 1)) s := by
  induction effs generalizing k s with
  | nil => rfl
  | cons e r ih => simp only [stX]; rw [ih]
theorem stX_none (effs : List Eff) (k : Nat) (s : St) : stX effs k (fun _ => false) s = s := by
  induction effs generalizing k s with
  | nil => rfl
  | cons e r ih => exact ih _ _
theorem Run.spec {l : List Oper} {st st' : St} {effs : List Eff} (h : Run P nt ops l st effs st') : st' = stX effs 0 (fun _ => true) st ∧ effs.map (·.o) = l ∧
    ∀ i e, effs[i]? = some e → LocOK P nt ops e (stX effs 0 (fun j => decide (j < i)) st) := by
  have shift : ∀ (e0 : Eff) (effs : List Eff) (st : St) (i : Nat), stX (e0 :: effs) 0 (fun j => decide (j < i + 1)) st = stX effs 0 (fun j => decide (j < i)) (e0.app st) := by
    intro e0 effs st i
    show stX effs (0 + 1) (fun j => decide (j < i + 1)) (match decide (0 < i + 1) with | true => e0.app st | false => st) = _
    rw [stX_shift, decide_eq_true (Nat.succ_pos i)]
    simp
  have full : ∀ (e0 : Eff) (effs : List Eff) (st : St), stX (e0 :: effs) 0 (fun _ => true) st = stX effs 0 (fun _ => true) (e0.app st) := by
    intro e0 effs st
    show stX effs (0 + 1) (fun _ => true) (e0.app st) = _
    rw [stX_shift]
  have first : ∀ (e0 : Eff) (effs : List Eff) (st : St), stX (e0 :: effs) 0 (fun j => decide (j < 0)) st = st := by
    intro e0 effs st
    have : (fun j : Nat => decide (j < 0)) = fun _ => false := by funext j; simp
    rw [this, stX_none]
  induction h with
  | nil => exact ⟨rfl, rfl, fun i e h => by simp at h⟩
  | step hg h hx hS hd k ih =>
    obtain ⟨h1, h2, h3⟩ := ih
    refine ⟨by rw [full]; exact h1, by simp [h2], fun i e he => ?_⟩
    cases i with
    | zero =>
      simp at he
      subst he
      rw [first]
      intro m0 T S a w hT hSS hr
      rw [if_pos (by simp [Region.wanted, hg])]
      exact h nt m0 T S a w (evs_local hx hT) (gets_local hS hSS) (dstOk_lt hd) hr
    | succ i =>
      rw [shift]
      exact h3 i e (by simpa using he)
  | stepG hg ht hv hb h hx hS hd k ih =>
    obtain ⟨h1, h2, h3⟩ := ih
    refine ⟨by rw [full]; exact h1, by simp [h2], fun i e he => ?_⟩
    cases i with
    | zero =>
      simp at he
      subst he
      rw [first]
      intro m0 T S a w hT hSS hr
      have hy := yield_of hr ht ((hT _ (by simp)).trans hv)
      rw [if_pos (by simp [Region.wanted, hg, hy, hb])]
      exact h nt m0 T S a w (evs_local hx fun t ht => hT t (by simp [ht])) (gets_local hS hSS) (dstOk_lt hd) hr
    | succ i =>
      rw [shift]
      exact h3 i e (by simpa using he)
  | skipG hg ht hv hb hd k ih =>
    obtain ⟨h1, h2, h3⟩ := ih
    refine ⟨by rw [full]; exact h1, by simp [h2], fun i e he => ?_⟩
    cases i with
    | zero =>
      simp at he
      subst he
      rw [first]
      intro m0 T S a w hT hSS hr
      have hy := yield_of hr ht ((hT _ (by simp)).trans hv)
      rw [if_neg (by simp [Region.wanted, hg, hy, hb])]
      exact put_dead (dstOk_lt hd) hr
    | succ i =>
      rw [shift]
      exact h3 i e (by simpa using he)
  | stepQ hg ht hv hc h hx hS hd hos k ih =>
    obtain ⟨h1, h2, h3⟩ := ih
    refine ⟨by rw [full]; exact h1, by simp [h2], fun i e he => ?_⟩
    cases i with
    | zero =>
      simp at he
      subst he
      rw [first]
      intro m0 T S a w hT hSS hr
      rcases guard_open hr hg ht ((hT _ (by simp)).trans hv) hc with ⟨hw, hall⟩ | ⟨hw, hno⟩
      · rw [if_pos hw]
        exact opt_step (h hall) hos (evcs_local hx fun t ht => hT t (by simp [ht])) (gets_local hS hSS) (dstOk_lt hd) hr hall
      · rw [if_neg (by simp [hw])]
        exact put_opt hno (dstOk_lt hd) hr
    | succ i =>
      rw [shift]
      exact h3 i e (by simpa using he)

theorem Good.draw {m0 m : Mem} {N : Nat} {Z : Zs} {ex : List Nat} (G : Good m0 m N Z ex) (n : Nat) : Good m0 { m with w := { m.w with drawn := n } } N Z ex := by
  have hle : m.Le { m with w := { m.w with drawn := n } } := ⟨fun _ h => h, fun _ _ _ h => h, fun _ h => ⟨h, rfl⟩⟩
  have := Good.swap (zs := []) (zs' := []) (R := Z) (m' := { m with w := { m.w with drawn := n } }) (N' := N) (ex' := ex) G hle (Nat.le_refl _) (fun _ _ _ => rfl) (fun _ _ _ _ => rfl) (fun z hz => by cases hz)
    (by have := (List.nodup_append.1 G.own).2.1; simpa [Zs.own] using this)
    (fun b hb => by
      have hb' : b ∈ ex := by simpa [Zs.own] using hb
      exact ⟨(G.blk b (by simp [hb'])).1, (G.blk b (by simp [hb'])).2, .inr (.inl hb')⟩)
    (fun b hb => ⟨G.frz b hb, .inl hb⟩) (by simp [Zs.keys]) (fun x hx => by simp [Zs.keys] at hx) (fun x hx => ⟨G.usedN x hx, .inl hx⟩) rfl rfl rfl (Nat.le_refl _)
  simpa using this
theorem Rel.draw {m0 : Mem} {st : St} {a : Act} {w : World} (h : Rel nt m0 st a w) (n : Nat) : Rel nt m0 st a { w with drawn := n } := by
  obtain ⟨m, N, Z, rfl, h2, h3, h4⟩ := h
  exact ⟨{ m with w := { m.w with drawn := n } }, N, Z, rfl, h2, h3.draw n, TRel.mono (m := m) (m' := { m with w := { m.w with drawn := n } }) ⟨fun _ h => h, fun _ _ _ h => h, fun _ h => ⟨h, rfl⟩⟩ h4⟩

theorem any_order {m0 : Mem} {st : St} {effs : List Eff} {Q' : Exit → Act → World → Prop} (heff : effs.map (·.o) = ops.toList) (hloc : ∀ i e, effs[i]? = some e → LocOK P nt ops e (stX effs 0 (fun j => decide (j < i)) st))
    (hc : compat effs (masks ops.toList []) = true) (hdn : down ops.toList 0 = true) (hQ : ∀ a w, Rel nt m0 (stX effs 0 (fun _ => true) st) a w → Q' .normal a w) :
    ∀ (fuel : Nat) (X : Array Bool) (a : Act) (w : World), X.size = ops.size → (∀ j o, ops.toList[j]? = some o → X.getD j false = true → ∀ e ∈ o.after.toList, Region.binds .any e = true → X.getD e.on false = true) →
      ((List.range ops.size).filter fun j => !X.getD j false).length ≤ fuel → Rel nt m0 (stX effs 0 (fun j => X.getD j false) st) a w → wpAnyIn (FW ro) 0 P .any ops Q' fuel X a w := by
  have hlen : effs.length = ops.size := by have := congrArg List.length heff; simpa using this
  -- all are listed
  have done : ∀ (X : Array Bool) a w, (∀ j, j < ops.size → X.getD j false = true) → Rel nt m0 (stX effs 0 (fun j => X.getD j false) st) a w → Q' .normal a w := by
    intro X a w hall hr
    refine hQ a w ?_
    have hT : ∀ t, look (stX effs 0 (fun j => X.getD j false) st).T t = look (stX effs 0 (fun _ => true) st).T t := fun t =>
      stX_look (fun j e he _ => by rw [Nat.zero_add]; exact hall j (by rw [← hlen]; exact (List.getElem?_eq_some_iff.1 he).1)) rfl
    have hS : (stX effs 0 (fun j => X.getD j false) st).S = (stX effs 0 (fun _ => true) st).S := List.ext_getElem? fun p =>
      stX_get (fun j e he _ => by rw [Nat.zero_add]; exact hall j (by rw [← hlen]; exact (List.getElem?_eq_some_iff.1 he).1)) rfl rfl
    have hr' : Rel nt m0 ⟨(stX effs 0 (fun _ => true) st).T, (stX effs 0 (fun j => X.getD j false) st).S⟩ a w := Rel.congr hr fun d v h => (hT d).trans h
    rw [hS] at hr'
    exact hr'
  have ready : ∀ (X : Array Bool), X.size = ops.size → Region.ready .any ops X = [] → ∀ j, j < ops.size → X.getD j false = true := by
    intro X hX hnil j
    induction j using Nat.strongRecOn with
    | _ j ih =>
      intro hj
      cases hx : X.getD j false with
      | true => rfl
      | false =>
        exfalso
        have : j ∈ Region.ready .any ops X := by
          refine List.mem_filter.2 ⟨List.mem_range.2 hj, ?_⟩
          have ho : ops[j]? = some ops[j] := by simp [hj]
          have hx' : X.getD j true = false := by
            have hjX : j < X.size := by omega
            simp only [Array.getD_eq_getD_getElem?, Array.getElem?_eq_getElem hjX, Option.getD_some] at hx ⊢
            exact hx
          simp only [hx', ho, Option.map_some, Option.getD_some, Bool.not_false, Bool.true_and]
          rw [Array.all_eq_true']
          intro e he
          cases hb : Region.binds .any e with
          | false => simp
          | true =>
            have hlt := down_spec _ 0 hdn j ops[j] (by simp [hj]) e (by simpa using he) hb
            have := ih e.on (by omega) (by omega)
            simpa using this
        rw [hnil] at this
        cases this
  intro fuel
  induction fuel with
  | zero =>
    intro X a w hX hdc hf hr
    have hall : ∀ j, j < ops.size → X.getD j false = true := by
      intro j hj
      have hnil := List.eq_nil_of_length_eq_zero (Nat.le_zero.1 hf)
      cases hx : X.getD j false with
      | true => rfl
      | false =>
        have : j ∈ (List.range ops.size).filter fun j => !X.getD j false := List.mem_filter.2 ⟨List.mem_range.2 hj, by simp only [hx, Bool.not_false]⟩
        rw [hnil] at this
        cases this
    refine ⟨List.filter_eq_nil_iff.2 fun j hj => ?_, done X a w hall hr⟩
    have hj' := List.mem_range.1 hj
    have := hall j hj'
    have hjX : j < X.size := by omega
    simp only [Array.getD_eq_getD_getElem?, Array.getElem?_eq_getElem hjX, Option.getD_some] at this ⊢
    simp [this]
  | succ fuel ih =>
    intro X a w hX hdc hf hr
    refine ⟨fun hnil => done X a w (ready X hX hnil) hr, fun i hi => ?_⟩
    obtain ⟨hi1, hi2⟩ := List.mem_filter.1 hi
    have hin := List.mem_range.1 hi1
    have ho : ops[i]? = some ops[i] := by simp [hin]
    have hiX : i < X.size := by omega
    simp only [ho, Option.map_some, Option.getD_some, Bool.and_eq_true] at hi2
    have hXi : X.getD i false = false := by
      have h := hi2.1
      simp only [Array.getD_eq_getD_getElem?, Array.getElem?_eq_getElem hiX, Option.getD_some] at h ⊢
      simpa using h
    have hpre : ∀ e ∈ (ops[i]).after.toList, Region.binds .any e = true → X.getD e.on false = true := by
      intro e he hb
      have := Array.all_eq_true'.1 hi2.2 e (by simpa using he)
      simpa [hb] using this
    -- the effect of i
    obtain ⟨e, he⟩ : ∃ e, effs[i]? = some e := ⟨effs[i]'(by omega), by simp [hlen, hin]⟩
    have heo : e.o = ops[i] := by
      have h1 : (effs.map (·.o))[i]? = some e.o := by simp [he]
      rw [heff] at h1
      simpa [hin] using h1.symm
    -- who clashes with i is ordered
    have hmask := masks_spec (fun j => X.getD j false) ops.toList [] (fun j o hj hXj e he hb => hdc j o hj (by simpa using hXj) e he hb) (fun j m h => by simp at h)
    have hcomp : ∀ a b ea eb, a < b → effs[a]? = some ea → effs[b]? = some eb → clash ea eb = true → ∃ m : Nat, (masks ops.toList [])[b]? = some m ∧ m.testBit a = true := by
      intro a b ea eb hab hea heb hcl
      have h1 := List.all_eq_true.1 hc b (List.mem_range.2 (List.getElem?_eq_some_iff.1 heb).1)
      have h2 := List.all_eq_true.1 h1 a (List.mem_range.2 hab)
      simp only [hea, heb] at h2
      cases hm : (masks ops.toList [])[b]? with
      | none => rw [hm] at h2; cases h2
      | some m => rw [hm] at h2; exact ⟨m, rfl, by simpa [hcl] using h2⟩
    have hbefore : ∀ j ej, j < i → effs[j]? = some ej → clash ej e = true → X.getD j false = true := by
      intro j ej hj hej hcl
      obtain ⟨m, hm1, hm2⟩ := hcomp j i ej e hj hej he hcl
      -- X with i listed is closed too
      have hcl2 := masks_spec (fun k => X.getD k false || decide (k = i)) ops.toList [] (fun k o hk hXk ee hee hb => by
        simp only [List.length_nil, Nat.zero_add, Bool.or_eq_true, decide_eq_true_eq] at hXk ⊢
        rcases hXk with h | h
        · exact .inl (hdc k o hk h ee hee hb)
        · subst h
          have : o = ops[k] := by simpa [hin] using hk.symm
          subst this
          exact .inl (hpre ee hee hb)) (fun j m h => by simp at h) i m hm1 (by simp) j hm2
      simp only [Bool.or_eq_true, decide_eq_true_eq] at hcl2
      rcases hcl2 with h | h
      · exact h
      · omega
    have hafter : ∀ j ej, i < j → effs[j]? = some ej → clash e ej = true → X.getD j false = false := by
      intro j ej hj hej hcl
      obtain ⟨m, hm1, hm2⟩ := hcomp i j e ej hj he hej hcl
      cases hx : X.getD j false with
      | false => rfl
      | true =>
        have := hmask j m hm1 hx i hm2
        rw [hXi] at this
        cases this
    -- what i reads is as in the text's order
    have hrT : ∀ t ∈ e.rT, look (stX effs 0 (fun j => X.getD j false) st).T t = look (stX effs 0 (fun j => decide (j < i)) st).T t := by
      intro t ht
      refine stX_look (fun j ej hej hd => ?_) rfl
      rw [Nat.zero_add]
      rcases Nat.lt_trichotomy j i with h | h | h
      · rw [hbefore j ej h hej ?_]
        · simp [h]
        · cases hcl : clash ej e with
          | true => rfl
          | false => exact absurd ht ((clash_spec hcl).1 t hd)
      · subst h
        rw [hXi]; simp
      · rw [hafter j ej h hej ?_]
        · simp; omega
        · cases hcl : clash e ej with
          | true => rfl
          | false => exact absurd ht ((clash_spec hcl).2.1 t hd)
    have hrS : ∀ p ∈ e.rS, (stX effs 0 (fun j => X.getD j false) st).S[p]? = (stX effs 0 (fun j => decide (j < i)) st).S[p]? := by
      intro p hp
      refine stX_get (fun j ej hej hd => ?_) rfl rfl
      rw [Nat.zero_add]
      obtain ⟨q, hq, rfl⟩ := hd
      rcases Nat.lt_trichotomy j i with h | h | h
      · rw [hbefore j ej h hej ?_]
        · simp [h]
        · cases hcl : clash ej e with
          | true => rfl
          | false => exact absurd hp ((clash_spec hcl).2.2.2.1 q hq)
      · subst h
        rw [hXi]; simp
      · rw [hafter j ej h hej ?_]
        · simp; omega
        · cases hcl : clash e ej with
          | true => rfl
          | false => exact absurd hp ((clash_spec hcl).2.2.2.2.1 q hq)
    -- the state with i listed
    have hX' : ∀ k, (X.setIfInBounds i true).getD k false = (X.getD k false || decide (k = i)) := by
      intro k
      simp only [Array.getD_eq_getD_getElem?, Array.getElem?_setIfInBounds]
      by_cases hk : i = k
      · subst hk; simp [hiX]
      · simp [hk, Ne.symm hk]
    have hnew : ∀ a w, Rel nt m0 (e.app (stX effs 0 (fun j => X.getD j false) st)) a w → Rel nt m0 (stX effs 0 (fun j => (X.setIfInBounds i true).getD j false) st) a w := by
      intro a w hr'
      have hT : ∀ t, look (stX effs 0 (fun j => (X.setIfInBounds i true).getD j false) st).T t = look (e.app (stX effs 0 (fun j => X.getD j false) st)).T t := by
        intro t
        by_cases hd : e.o.dst = some t
        · rw [stX_last (i := i) (e := e) (t := t) he (by rw [Nat.zero_add, hX']; simp) hd ?_]
          · simp [Eff.app, hd, putD, look_cons]
          · intro j ej hj hej hXj hdj
            rw [Nat.zero_add, hX'] at hXj
            have hXj' : X.getD j false = true := by
              simp only [Bool.or_eq_true, decide_eq_true_eq] at hXj
              rcases hXj with h | h
              · exact h
              · omega
            have := hafter j ej hj hej (by
              cases hcl : clash e ej with
              | true => rfl
              | false => exact absurd hdj ((clash_spec hcl).2.2.1 t hd))
            rw [hXj'] at this
            cases this
        · have ap : look (e.app (stX effs 0 (fun j => X.getD j false) st)).T t = look (stX effs 0 (fun j => X.getD j false) st).T t := by
            simp only [Eff.app]
            cases hdd : e.o.dst with
            | none => rfl
            | some d => rw [putD, look_cons, if_neg]; exact fun h => hd (by rw [hdd, h])
          rw [ap]
          refine stX_look (fun j ej hej hdj => ?_) rfl
          rw [Nat.zero_add, hX']
          have : j ≠ i := by
            rintro rfl
            rw [he] at hej
            injection hej with hej
            subst hej
            exact hd hdj
          simp [this]
      have hS : (stX effs 0 (fun j => (X.setIfInBounds i true).getD j false) st).S = (e.app (stX effs 0 (fun j => X.getD j false) st)).S := by
        refine List.ext_getElem? fun p => ?_
        by_cases hd : ∃ q ∈ e.wS, q.1 = p
        · rw [stX_lastS (i := i) (e := e) (p := p) he (by rw [Nat.zero_add, hX']; simp) hd ?_ (stX effs 0 (fun j => X.getD j false) st).S (stX_len ..)]
          · rfl
          · intro j ej hj hej hXj hdj
            rw [Nat.zero_add, hX'] at hXj
            have hXj' : X.getD j false = true := by
              simp only [Bool.or_eq_true, decide_eq_true_eq] at hXj
              rcases hXj with h | h
              · exact h
              · omega
            obtain ⟨q, hq, hqp⟩ := hd
            obtain ⟨q', hq', hqp'⟩ := hdj
            have := hafter j ej hj hej (by
              cases hcl : clash e ej with
              | true => rfl
              | false => exact absurd (hqp.trans hqp'.symm) ((clash_spec hcl).2.2.2.2.2 q hq q' hq'))
            rw [hXj'] at this
            cases this
        · have ap : (e.app (stX effs 0 (fun j => X.getD j false) st)).S[p]? = (stX effs 0 (fun j => X.getD j false) st).S[p]? := setAll_ne (fun q hq h => hd ⟨q, hq, h⟩) _
          rw [ap]
          refine stX_get (fun j ej hej hdj => ?_) rfl rfl
          rw [Nat.zero_add, hX']
          have : j ≠ i := by
            rintro rfl
            rw [he] at hej
            injection hej with hej
            subst hej
            exact hd hdj
          simp [this]
      have := Rel.congr hr' (T' := (stX effs 0 (fun j => (X.setIfInBounds i true).getD j false) st).T) fun d v h => (hT d).symm.trans h
      rw [show (⟨(stX effs 0 (fun j => (X.setIfInBounds i true).getD j false) st).T, setAll (stX effs 0 (fun j => X.getD j false) st).S e.wS⟩ : St) = stX effs 0 (fun j => (X.setIfInBounds i true).getD j false) st from by
        rw [show setAll (stX effs 0 (fun j => X.getD j false) st).S e.wS = (e.app (stX effs 0 (fun j => X.getD j false) st)).S from rfl, ← hS]] at this
      exact this
    have next : ∀ a w, Rel nt m0 (e.app (stX effs 0 (fun j => X.getD j false) st)) a w → wpAnyIn (FW ro) 0 P .any ops Q' fuel (X.setIfInBounds i true) a w := by
      intro a w hr'
      refine ih _ a w (by simp [hX]) ?_ ?_ (hnew a w hr')
      · intro j o hj hXj ee hee hb
        rw [hX'] at hXj ⊢
        simp only [Bool.or_eq_true, decide_eq_true_eq] at hXj ⊢
        rcases hXj with h | h
        · exact .inl (hdc j o hj h ee hee hb)
        · subst h
          have : o = ops[j] := by simpa [hin] using hj.symm
          subst this
          exact .inl (hpre ee hee hb)
      · have e1 : (List.range ops.size).filter (fun j => !(X.setIfInBounds i true).getD j false) = ((List.range ops.size).filter fun j => !X.getD j false).filter fun j => !decide (j = i) := by
          rw [List.filter_filter]
          congr 1
          funext j
          rw [hX']
          cases X.getD j false <;> simp
        have hmem : i ∈ (List.range ops.size).filter fun j => !X.getD j false := List.mem_filter.2 ⟨List.mem_range.2 hin, by simp only [hXi, Bool.not_false]⟩
        have := (List.length_filter_lt_length_iff_exists (l := (List.range ops.size).filter fun j => !X.getD j false) (p := fun j => !decide (j = i))).2 ⟨i, hmem, by simp⟩
        rw [e1]
        omega
    have hl := hloc i e he m0 _ _ a w hrT hrS hr
    unfold wpOpIn
    simp only [ho]
    rw [heo] at hl
    by_cases hw : Region.wanted ops[i] (yielded ops a.tmps) = true
    · rw [if_pos hw] at hl ⊢
      exact wpIn_fw hl next
    · rw [if_neg hw] at hl ⊢
      exact ⟨fun _ _ => trivial, next _ _ hl⟩

theorem AWP.region_any {Q : Exit → St → Prop} {id : Nat} {l : List Oper} {st st' : St} {effs : List Eff} (hm : P.follows .mixedOrders = true) (hr : Run P nt l.toArray l st effs st') (hc : compat effs (masks l []) = true) (hdn : down l 0 = true) (hQ : Q .normal st') : AWP ro P nt (.region id l.toArray true) Q st := by
  intro m0 a w hrel
  obtain ⟨h1, h2, h3⟩ := hr.spec
  refine wpIn_region_any hm (any_order (m0 := m0) (st := st) (effs := effs) (by simpa using h2) h3 (by simpa using hc) (by simpa using hdn) (fun a w h => ⟨st', by rw [h1]; exact h, hQ⟩) _ _ a _ (by simp) ?_ ?_ ?_)
  · intro j o hj hX
    have : j < l.length := (List.getElem?_eq_some_iff.1 hj).1
    simp [this] at hX
  · exact Nat.le_trans (List.length_filter_le _ _) (by simp)
  · have : (fun j => (Array.replicate l.toArray.size false).getD j false) = fun _ => false := by
      funext j
      simp only [Array.getD_eq_getD_getElem?, Array.getElem?_replicate]
      split <;> rfl
    rw [this, stX_none]
    exact hrel.draw _
theorem AWP.region {Q : Exit → St → Prop} {id : Nat} {l : List Oper} {st : St} (h : AOps ro P nt l.toArray Q l st) : AWP ro P nt (.region id l.toArray false) Q st :=
  fun m0 a w hr => wpIn_region_lit (h m0 a w hr)
end
end Go.Proofs.Ytcfleoaldoebhaa
