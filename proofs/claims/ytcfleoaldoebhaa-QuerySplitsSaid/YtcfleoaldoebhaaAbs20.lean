/-
  A region in any order whose last operations come in the text's order. No conditions.
-/
import Derived.Test.YtcfleoaldoebhaaAbs19
namespace Go.Proofs.Ytcfleoaldoebhaa
set_option linter.unusedVariables false
set_option linter.unusedSimpArgs false
variable {ro : Option Nat}
open Go.RowKit

section
variable {P : Program} {nt : Nat} {ops : Array Oper}
theorem any_orderT {m0 : Mem} {st : St} {effs : List Eff} {Q' : Exit → Act → World → Prop} {k : Nat} (hk : effs.length = k) (heff : effs.map (·.o) = ops.toList.take k) (hloc : ∀ i e, effs[i]? = some e → LocOK P nt ops e (stX effs 0 (fun j => decide (j < i)) st))
    (hc : compat effs (masks ops.toList []) = true) (hdn : down ops.toList 0 = true) (htail : ∀ i, k ≤ i → i < ops.size → ∃ m, (masks ops.toList [])[i]? = some m ∧ ∀ j, j < i → m.testBit j = true)
    (hQ : ∀ fuel (X : Array Bool) a w, X.size = ops.size → (∀ j, j < k → j < ops.size → X.getD j false = true) → (∀ j, k ≤ j → X.getD j false = false) → ((List.range ops.size).filter fun j => !X.getD j false).length ≤ fuel → Rel nt m0 (stX effs 0 (fun _ => true) st) a w → wpAnyIn (FW ro) 0 P .any ops Q' fuel X a w) :
    ∀ (fuel : Nat) (X : Array Bool) (a : Act) (w : World), X.size = ops.size → (∀ j o, ops.toList[j]? = some o → X.getD j false = true → ∀ e ∈ o.after.toList, Region.binds .any e = true → X.getD e.on false = true) → (∀ j, k ≤ j → X.getD j false = false) →
      ((List.range ops.size).filter fun j => !X.getD j false).length ≤ fuel → Rel nt m0 (stX effs 0 (fun j => X.getD j false) st) a w → wpAnyIn (FW ro) 0 P .any ops Q' fuel X a w := by
  have hkn : k ≤ ops.size := by
    have := congrArg List.length heff
    simp only [List.length_map, List.length_take, Array.length_toList] at this
    omega
  -- the head is done
  have done : ∀ fuel (X : Array Bool) a w, X.size = ops.size → (∀ j, k ≤ j → X.getD j false = false) → (∀ j, j < k → X.getD j false = true) → ((List.range ops.size).filter fun j => !X.getD j false).length ≤ fuel → Rel nt m0 (stX effs 0 (fun j => X.getD j false) st) a w → wpAnyIn (FW ro) 0 P .any ops Q' fuel X a w := by
    intro fuel X a w hX hno hall hf hr
    refine hQ fuel X a w hX (fun j hj _ => hall j hj) hno hf ?_
    have hT : ∀ t, look (stX effs 0 (fun j => X.getD j false) st).T t = look (stX effs 0 (fun _ => true) st).T t := fun t =>
      stX_look (fun j e he _ => by rw [Nat.zero_add]; exact hall j (by rw [← hk]; exact (List.getElem?_eq_some_iff.1 he).1)) rfl
    have hS : (stX effs 0 (fun j => X.getD j false) st).S = (stX effs 0 (fun _ => true) st).S := List.ext_getElem? fun p =>
      stX_get (fun j e he _ => by rw [Nat.zero_add]; exact hall j (by rw [← hk]; exact (List.getElem?_eq_some_iff.1 he).1)) rfl rfl
    have hr' : Rel nt m0 ⟨(stX effs 0 (fun _ => true) st).T, (stX effs 0 (fun j => X.getD j false) st).S⟩ a w := Rel.congr hr fun d v h => (hT d).trans h
    rw [hS] at hr'
    exact hr'
  have ready : ∀ (X : Array Bool), X.size = ops.size → Region.ready .any ops X = [] → ∀ j, j < ops.size → X.getD j false = true := by
    intro X hX hnil j
    induction j using Nat.strongRecOn with
    | _ j ih =>
      intro hj
      cases hx : X.getD j false with
      | true => rfl
      | false =>
        exfalso
        have : j ∈ Region.ready .any ops X := by
          refine List.mem_filter.2 ⟨List.mem_range.2 hj, ?_⟩
          have ho : ops[j]? = some ops[j] := by simp [hj]
          have hx' : X.getD j true = false := by
            have hjX : j < X.size := by omega
            simp only [Array.getD_eq_getD_getElem?, Array.getElem?_eq_getElem hjX, Option.getD_some] at hx ⊢
            exact hx
          simp only [hx', ho, Option.map_some, Option.getD_some, Bool.not_false, Bool.true_and]
          rw [Array.all_eq_true']
          intro e he
          cases hb : Region.binds .any e with
          | false => simp
          | true =>
            have hlt := down_spec _ 0 hdn j ops[j] (by simp [hj]) e (by simpa using he) hb
            have := ih e.on (by omega) (by omega)
            simpa using this
        rw [hnil] at this
        cases this
  intro fuel
  induction fuel with
  | zero =>
    intro X a w hX hdc hno hf hr
    have hall : ∀ j, j < ops.size → X.getD j false = true := by
      intro j hj
      have hnil := List.eq_nil_of_length_eq_zero (Nat.le_zero.1 hf)
      cases hx : X.getD j false with
      | true => rfl
      | false =>
        have : j ∈ (List.range ops.size).filter fun j => !X.getD j false := List.mem_filter.2 ⟨List.mem_range.2 hj, by simp only [hx, Bool.not_false]⟩
        rw [hnil] at this
        cases this
    exact done 0 X a w hX hno (fun j hj => hall j (by omega)) hf hr
  | succ fuel ih =>
    intro X a w hX hdc hno hf hr
    by_cases hhead : ∀ j, j < k → X.getD j false = true
    · exact done _ X a w hX hno hhead hf hr
    obtain ⟨j0, hj0, hX0⟩ : ∃ j, j < k ∧ X.getD j false = false := by
      simp only [Classical.not_forall] at hhead
      obtain ⟨j, hj, hx⟩ := hhead
      exact ⟨j, hj, by simpa using hx⟩
    refine ⟨fun hnil => absurd (ready X hX hnil j0 (by omega)) (by rw [hX0]; simp), fun i hi => ?_⟩
    obtain ⟨hi1, hi2⟩ := List.mem_filter.1 hi
    have hin := List.mem_range.1 hi1
    have ho : ops[i]? = some ops[i] := by simp [hin]
    have hiX : i < X.size := by omega
    simp only [ho, Option.map_some, Option.getD_some, Bool.and_eq_true] at hi2
    have hXi : X.getD i false = false := by
      have h := hi2.1
      simp only [Array.getD_eq_getD_getElem?, Array.getElem?_eq_getElem hiX, Option.getD_some] at h ⊢
      simpa using h
    have hpre : ∀ e ∈ (ops[i]).after.toList, Region.binds .any e = true → X.getD e.on false = true := by
      intro e he hb
      have := Array.all_eq_true'.1 hi2.2 e (by simpa using he)
      simpa [hb] using this
    have hik : i < k := by
      refine Nat.lt_of_not_le fun hle => ?_
      obtain ⟨mk, hmk, hmb⟩ := htail i hle hin
      have hcl2 := masks_spec (fun k => X.getD k false || decide (k = i)) ops.toList [] (fun k o hk hXk ee hee hb => by
        simp only [List.length_nil, Nat.zero_add, Bool.or_eq_true, decide_eq_true_eq] at hXk ⊢
        rcases hXk with h | h
        · exact .inl (hdc k o hk h ee hee hb)
        · subst h
          have : o = ops[k] := by simpa [hin] using hk.symm
          subst this
          exact .inl (hpre ee hee hb)) (fun j m h => by simp at h) i mk hmk (by simp) j0 (hmb j0 (by omega))
      simp only [Bool.or_eq_true, decide_eq_true_eq, hX0] at hcl2
      rcases hcl2 with h | h
      · cases h
      · omega
    -- the effect of i
    obtain ⟨e, he⟩ : ∃ e, effs[i]? = some e := ⟨effs[i]'(by omega), List.getElem?_eq_getElem (by omega)⟩
    have heo : e.o = ops[i] := by
      have h1 : (effs.map (·.o))[i]? = some e.o := by simp [he]
      rw [heff, List.getElem?_take_of_lt hik] at h1
      simpa [hin] using h1.symm
    -- who clashes with i is ordered
    have hmask := masks_spec (fun j => X.getD j false) ops.toList [] (fun j o hj hXj e he hb => hdc j o hj (by simpa using hXj) e he hb) (fun j m h => by simp at h)
    have hcomp : ∀ a b ea eb, a < b → effs[a]? = some ea → effs[b]? = some eb → clash ea eb = true → ∃ m : Nat, (masks ops.toList [])[b]? = some m ∧ m.testBit a = true := by
      intro a b ea eb hab hea heb hcl
      have h1 := List.all_eq_true.1 hc b (List.mem_range.2 (List.getElem?_eq_some_iff.1 heb).1)
      have h2 := List.all_eq_true.1 h1 a (List.mem_range.2 hab)
      simp only [hea, heb] at h2
      cases hm : (masks ops.toList [])[b]? with
      | none => rw [hm] at h2; cases h2
      | some m => rw [hm] at h2; exact ⟨m, rfl, by simpa [hcl] using h2⟩
    have hbefore : ∀ j ej, j < i → effs[j]? = some ej → clash ej e = true → X.getD j false = true := by
      intro j ej hj hej hcl
      obtain ⟨m, hm1, hm2⟩ := hcomp j i ej e hj hej he hcl
      -- X with i listed is closed too
      have hcl2 := masks_spec (fun k => X.getD k false || decide (k = i)) ops.toList [] (fun k o hk hXk ee hee hb => by
        simp only [List.length_nil, Nat.zero_add, Bool.or_eq_true, decide_eq_true_eq] at hXk ⊢
        rcases hXk with h | h
        · exact .inl (hdc k o hk h ee hee hb)
        · subst h
          have : o = ops[k] := by simpa [hin] using hk.symm
          subst this
          exact .inl (hpre ee hee hb)) (fun j m h => by simp at h) i m hm1 (by simp) j hm2
      simp only [Bool.or_eq_true, decide_eq_true_eq] at hcl2
      rcases hcl2 with h | h
      · exact h
      · omega
    have hafter : ∀ j ej, i < j → effs[j]? = some ej → clash e ej = true → X.getD j false = false := by
      intro j ej hj hej hcl
      obtain ⟨m, hm1, hm2⟩ := hcomp i j e ej hj he hej hcl
      cases hx : X.getD j false with
      | false => rfl
      | true =>
        have := hmask j m hm1 hx i hm2
        rw [hXi] at this
        cases this
    -- what i reads is as in the text's order
    have hrT : ∀ t ∈ e.rT, look (stX effs 0 (fun j => X.getD j false) st).T t = look (stX effs 0 (fun j => decide (j < i)) st).T t := by
      intro t ht
      refine stX_look (fun j ej hej hd => ?_) rfl
      rw [Nat.zero_add]
      rcases Nat.lt_trichotomy j i with h | h | h
      · rw [hbefore j ej h hej ?_]
        · simp [h]
        · cases hcl : clash ej e with
          | true => rfl
          | false => exact absurd ht ((clash_spec hcl).1 t hd)
      · subst h
        rw [hXi]; simp
      · rw [hafter j ej h hej ?_]
        · simp; omega
        · cases hcl : clash e ej with
          | true => rfl
          | false => exact absurd ht ((clash_spec hcl).2.1 t hd)
    have hrS : ∀ p ∈ e.rS, (stX effs 0 (fun j => X.getD j false) st).S[p]? = (stX effs 0 (fun j => decide (j < i)) st).S[p]? := by
      intro p hp
      refine stX_get (fun j ej hej hd => ?_) rfl rfl
      rw [Nat.zero_add]
      obtain ⟨q, hq, rfl⟩ := hd
      rcases Nat.lt_trichotomy j i with h | h | h
      · rw [hbefore j ej h hej ?_]
        · simp [h]
        · cases hcl : clash ej e with
          | true => rfl
          | false => exact absurd hp ((clash_spec hcl).2.2.2.1 q hq)
      · subst h
        rw [hXi]; simp
      · rw [hafter j ej h hej ?_]
        · simp; omega
        · cases hcl : clash e ej with
          | true => rfl
          | false => exact absurd hp ((clash_spec hcl).2.2.2.2.1 q hq)
    -- the state with i listed
    have hX' : ∀ k, (X.setIfInBounds i true).getD k false = (X.getD k false || decide (k = i)) := by
      intro k
      simp only [Array.getD_eq_getD_getElem?, Array.getElem?_setIfInBounds]
      by_cases hk : i = k
      · subst hk; simp [hiX]
      · simp [hk, Ne.symm hk]
    have hnew : ∀ a w, Rel nt m0 (e.app (stX effs 0 (fun j => X.getD j false) st)) a w → Rel nt m0 (stX effs 0 (fun j => (X.setIfInBounds i true).getD j false) st) a w := by
      intro a w hr'
      have hT : ∀ t, look (stX effs 0 (fun j => (X.setIfInBounds i true).getD j false) st).T t = look (e.app (stX effs 0 (fun j => X.getD j false) st)).T t := by
        intro t
        by_cases hd : e.o.dst = some t
        · rw [stX_last (i := i) (e := e) (t := t) he (by rw [Nat.zero_add, hX']; simp) hd ?_]
          · simp [Eff.app, hd, putD, look_cons]
          · intro j ej hj hej hXj hdj
            rw [Nat.zero_add, hX'] at hXj
            have hXj' : X.getD j false = true := by
              simp only [Bool.or_eq_true, decide_eq_true_eq] at hXj
              rcases hXj with h | h
              · exact h
              · omega
            have := hafter j ej hj hej (by
              cases hcl : clash e ej with
              | true => rfl
              | false => exact absurd hdj ((clash_spec hcl).2.2.1 t hd))
            rw [hXj'] at this
            cases this
        · have ap : look (e.app (stX effs 0 (fun j => X.getD j false) st)).T t = look (stX effs 0 (fun j => X.getD j false) st).T t := by
            simp only [Eff.app]
            cases hdd : e.o.dst with
            | none => rfl
            | some d => rw [putD, look_cons, if_neg]; exact fun h => hd (by rw [hdd, h])
          rw [ap]
          refine stX_look (fun j ej hej hdj => ?_) rfl
          rw [Nat.zero_add, hX']
          have : j ≠ i := by
            rintro rfl
            rw [he] at hej
            injection hej with hej
            subst hej
            exact hd hdj
          simp [this]
      have hS : (stX effs 0 (fun j => (X.setIfInBounds i true).getD j false) st).S = (e.app (stX effs 0 (fun j => X.getD j false) st)).S := by
        refine List.ext_getElem? fun p => ?_
        by_cases hd : ∃ q ∈ e.wS, q.1 = p
        · rw [stX_lastS (i := i) (e := e) (p := p) he (by rw [Nat.zero_add, hX']; simp) hd ?_ (stX effs 0 (fun j => X.getD j false) st).S (stX_len ..)]
          · rfl
          · intro j ej hj hej hXj hdj
            rw [Nat.zero_add, hX'] at hXj
            have hXj' : X.getD j false = true := by
              simp only [Bool.or_eq_true, decide_eq_true_eq] at hXj
              rcases hXj with h | h
              · exact h
              · omega
            obtain ⟨q, hq, hqp⟩ := hd
            obtain ⟨q', hq', hqp'⟩ := hdj
            have := hafter j ej hj hej (by
              cases hcl : clash e ej with
              | true => rfl
              | false => exact absurd (hqp.trans hqp'.symm) ((clash_spec hcl).2.2.2.2.2 q hq q' hq'))
            rw [hXj'] at this
            cases this
        · have ap : (e.app (stX effs 0 (fun j => X.getD j false) st)).S[p]? = (stX effs 0 (fun j => X.getD j false) st).S[p]? := setAll_ne (fun q hq h => hd ⟨q, hq, h⟩) _
          rw [ap]
          refine stX_get (fun j ej hej hdj => ?_) rfl rfl
          rw [Nat.zero_add, hX']
          have : j ≠ i := by
            rintro rfl
            rw [he] at hej
            injection hej with hej
            subst hej
            exact hd hdj
          simp [this]
      have := Rel.congr hr' (T' := (stX effs 0 (fun j => (X.setIfInBounds i true).getD j false) st).T) fun d v h => (hT d).symm.trans h
      rw [show (⟨(stX effs 0 (fun j => (X.setIfInBounds i true).getD j false) st).T, setAll (stX effs 0 (fun j => X.getD j false) st).S e.wS⟩ : St) = stX effs 0 (fun j => (X.setIfInBounds i true).getD j false) st from by
        rw [show setAll (stX effs 0 (fun j => X.getD j false) st).S e.wS = (e.app (stX effs 0 (fun j => X.getD j false) st)).S from rfl, ← hS]] at this
      exact this
    have next : ∀ a w, Rel nt m0 (e.app (stX effs 0 (fun j => X.getD j false) st)) a w → wpAnyIn (FW ro) 0 P .any ops Q' fuel (X.setIfInBounds i true) a w := by
      intro a w hr'
      refine ih _ a w (by simp [hX]) ?_ ?_ ?_ (hnew a w hr')
      · intro j o hj hXj ee hee hb
        rw [hX'] at hXj ⊢
        simp only [Bool.or_eq_true, decide_eq_true_eq] at hXj ⊢
        rcases hXj with h | h
        · exact .inl (hdc j o hj h ee hee hb)
        · subst h
          have : o = ops[j] := by simpa [hin] using hj.symm
          subst this
          exact .inl (hpre ee hee hb)
      · intro j hj
        rw [hX', hno j hj]
        simp; omega
      · have e1 : (List.range ops.size).filter (fun j => !(X.setIfInBounds i true).getD j false) = ((List.range ops.size).filter fun j => !X.getD j false).filter fun j => !decide (j = i) := by
          rw [List.filter_filter]
          congr 1
          funext j
          rw [hX']
          cases X.getD j false <;> simp
        have hmem : i ∈ (List.range ops.size).filter fun j => !X.getD j false := List.mem_filter.2 ⟨List.mem_range.2 hin, by simp only [hXi, Bool.not_false]⟩
        have := (List.length_filter_lt_length_iff_exists (l := (List.range ops.size).filter fun j => !X.getD j false) (p := fun j => !decide (j = i))).2 ⟨i, hmem, by simp⟩
        rw [e1]
        omega
    have hl := hloc i e he m0 _ _ a w hrT hrS hr
    unfold wpOpIn
    simp only [ho]
    rw [heo] at hl
    by_cases hw : Region.wanted ops[i] (yielded ops a.tmps) = true
    · rw [if_pos hw] at hl ⊢
      exact wpIn_fw hl next
    · rw [if_neg hw] at hl ⊢
      exact ⟨fun _ _ => trivial, next _ _ hl⟩

/-- The operations of a region from i on come in the text's order. -/
theorem any_tail {Q' : Exit → Act → World → Prop} (hdn : down ops.toList 0 = true) : ∀ (fuel i : Nat) (X : Array Bool) (a : Act) (w : World), X.size = ops.size → (∀ j, j < i → j < ops.size → X.getD j false = true) → (∀ j, i ≤ j → X.getD j false = false) →
    (∀ i', i ≤ i' → i' < ops.size → ∃ m, (masks ops.toList [])[i']? = some m ∧ ∀ j, j < i' → m.testBit j = true) →
    ((List.range ops.size).filter fun j => !X.getD j false).length ≤ fuel → wpListIn (FW ro) 0 P ops Q' (ops.toList.drop i) a w → wpAnyIn (FW ro) 0 P .any ops Q' fuel X a w := by
  intro fuel
  induction fuel with
  | zero =>
    intro i X a w hX h1 h2 h3 hf h
    have hnil := List.eq_nil_of_length_eq_zero (Nat.le_zero.1 hf)
    have hin : ops.size ≤ i := by
      refine Nat.le_of_not_lt fun hlt => ?_
      have : i ∈ (List.range ops.size).filter fun j => !X.getD j false := List.mem_filter.2 ⟨List.mem_range.2 hlt, by simp only [h2 i (Nat.le_refl _), Bool.not_false]⟩
      rw [hnil] at this
      cases this
    rw [List.drop_eq_nil_of_le (by simpa using hin)] at h
    refine ⟨List.filter_eq_nil_iff.2 fun j hj => ?_, h⟩
    have hj' := List.mem_range.1 hj
    have := h1 j (by omega) hj'
    have hjX : j < X.size := by omega
    simp only [Array.getD_eq_getD_getElem?, Array.getElem?_eq_getElem hjX, Option.getD_some] at this ⊢
    simp [this]
  | succ fuel ih =>
    intro i X a w hX h1 h2 h3 hf h
    have hget : ∀ j, X.getD j true = false → j < ops.size ∧ X.getD j false = false := by
      intro j hj
      have hjX : j < X.size := by
        refine Nat.lt_of_not_le fun hle => ?_
        rw [Array.getD_eq_getD_getElem?, Array.getElem?_eq_none hle] at hj
        cases hj
      refine ⟨by omega, ?_⟩
      simp only [Array.getD_eq_getD_getElem?, Array.getElem?_eq_getElem hjX, Option.getD_some] at hj ⊢
      exact hj
    by_cases hin : i < ops.size
    · have ho : ops[i]? = some ops[i] := by simp [hin]
      have hready : i ∈ Region.ready .any ops X := by
        refine List.mem_filter.2 ⟨List.mem_range.2 hin, ?_⟩
        have hx' : X.getD i true = false := by
          have hx := h2 i (Nat.le_refl _)
          have hjX : i < X.size := by omega
          simp only [Array.getD_eq_getD_getElem?, Array.getElem?_eq_getElem hjX, Option.getD_some] at hx ⊢
          exact hx
        simp only [hx', ho, Option.map_some, Option.getD_some, Bool.not_false, Bool.true_and]
        rw [Array.all_eq_true']
        intro e he
        cases hb : Region.binds .any e with
        | false => simp
        | true =>
          have hlt := down_spec _ 0 hdn i ops[i] (by simp [hin]) e (by simpa using he) hb
          have := h1 e.on (by omega) (by omega)
          simpa using this
      refine ⟨fun hnil => (by rw [hnil] at hready; cases hready), fun j hj => ?_⟩
      obtain ⟨hj1, hj2⟩ := List.mem_filter.1 hj
      have hjn := List.mem_range.1 hj1
      have hoj : ops[j]? = some ops[j] := by simp [hjn]
      simp only [hoj, Option.map_some, Option.getD_some, Bool.and_eq_true] at hj2
      obtain ⟨_, hXj⟩ := hget j (by simpa using hj2.1)
      have hij : i ≤ j := Nat.le_of_not_lt fun hlt => by rw [h1 j hlt hjn] at hXj; cases hXj
      have hji : j = i := by
        refine Nat.le_antisymm (Nat.le_of_not_lt fun hlt => ?_) hij
        obtain ⟨mk, hmk, hmb⟩ := h3 j hij hjn
        have hcl2 := masks_spec (fun k => decide (k < i) || decide (k = j)) ops.toList [] (fun k o hk hXk ee hee hb => by
          simp only [List.length_nil, Nat.zero_add, Bool.or_eq_true, decide_eq_true_eq] at hXk ⊢
          rcases hXk with h | h
          · have := down_spec _ 0 hdn k o hk ee hee hb
            left; omega
          · subst h
            have : o = ops[k] := by simpa [hjn] using hk.symm
            subst this
            have hp := Array.all_eq_true'.1 hj2.2 ee (by simpa using hee)
            have hq : X.getD ee.on false = true := by simpa [hb] using hp
            left
            exact Nat.lt_of_not_le fun hle => by rw [h2 ee.on hle] at hq; cases hq) (fun j m h => by simp at h) j mk hmk (by simp) i (hmb i hlt)
        simp only [Bool.or_eq_true, decide_eq_true_eq] at hcl2
        omega
      subst hji
      rw [List.drop_eq_getElem_cons (by simpa using hin)] at h
      have hX' : ∀ k, (X.setIfInBounds j true).getD k false = (X.getD k false || decide (k = j)) := by
        intro k
        simp only [Array.getD_eq_getD_getElem?, Array.getElem?_setIfInBounds]
        by_cases e : j = k
        · subst e; simp [show j < X.size by omega]
        · have : ¬ k = j := fun h => e h.symm
          simp [e, this]
      have nxt : ∀ a w, wpListIn (FW ro) 0 P ops Q' (ops.toList.drop (j + 1)) a w → wpAnyIn (FW ro) 0 P .any ops Q' fuel (X.setIfInBounds j true) a w := by
        intro a w hw
        refine ih (j + 1) _ a w (by simp [hX]) (fun k hk hkn => ?_) (fun k hk => ?_) (fun i' hi' => h3 i' (by omega)) ?_ hw
        · rw [hX']
          by_cases e : k = j
          · simp [e]
          · rw [h1 k (by omega) hkn]; rfl
        · rw [hX', h2 k (by omega)]
          simp; omega
        · have e1 : (List.range ops.size).filter (fun k => !(X.setIfInBounds j true).getD k false) = ((List.range ops.size).filter fun k => !X.getD k false).filter fun k => !decide (k = j) := by
            rw [List.filter_filter]
            congr 1
            funext k
            rw [hX']
            cases X.getD k false <;> simp
          have hmem : j ∈ (List.range ops.size).filter fun k => !X.getD k false := List.mem_filter.2 ⟨List.mem_range.2 hin, by simp only [hXj, Bool.not_false]⟩
          have := (List.length_filter_lt_length_iff_exists (l := (List.range ops.size).filter fun k => !X.getD k false) (p := fun k => !decide (k = j))).2 ⟨j, hmem, by simp⟩
          rw [e1]
          omega
      unfold wpOpIn
      simp only [ho]
      unfold wpListIn at h
      simp only [Array.getElem_toList] at h
      by_cases hw : Region.wanted ops[j] (yielded ops a.tmps) = true
      · rw [if_pos hw] at h ⊢
        exact Oper.wpIn_mono nxt h
      · rw [if_neg hw] at h ⊢
        exact ⟨h.1, nxt _ _ h.2⟩
    · rw [List.drop_eq_nil_of_le (by simpa using Nat.le_of_not_lt hin)] at h
      refine ⟨fun _ => h, fun j hj => ?_⟩
      obtain ⟨hj1, hj2⟩ := List.mem_filter.1 hj
      have hjn := List.mem_range.1 hj1
      have hoj : ops[j]? = some ops[j] := by simp [hjn]
      simp only [hoj, Option.map_some, Option.getD_some, Bool.and_eq_true] at hj2
      obtain ⟨_, hXj⟩ := hget j (by simpa using hj2.1)
      rw [h1 j (by omega) hjn] at hXj
      cases hXj
theorem masks_len' : ∀ (r : List Oper) (acc : List Nat), (masks r acc).length = acc.length + r.length
  | [], acc => by simp [masks]
  | o :: r, acc => by rw [masks, masks_len' r]; simp; omega
theorem masks_len (l : List Oper) : (masks l []).length = l.length := by rw [masks_len']; simp
def tailB : Nat → List Nat → Bool
  | _, [] => true
  | i, m :: r => (List.range i).all (fun j => m.testBit j) && tailB (i + 1) r
theorem tailB_spec : ∀ {r : List Nat} {i : Nat}, tailB i r = true → ∀ q m, r[q]? = some m → ∀ j, j < i + q → m.testBit j = true
  | [], i, _, q, m, h => by simp at h
  | m0 :: r, i, ht, q, m, h => by
    simp only [tailB, Bool.and_eq_true] at ht
    intro j hj
    cases q with
    | zero =>
      simp at h
      subst h
      exact List.all_eq_true.1 ht.1 j (List.mem_range.2 (by omega))
    | succ q => exact tailB_spec ht.2 q m (by simpa using h) j (by omega)
/-- A region in any order, whose operations from k on come last, in the text's order. -/
theorem AWP.region_tail {Q : Exit → St → Prop} {id : Nat} {l : List Oper} {st : St} (k : Nat) (hm : P.follows .mixedOrders = true) (hdn : down l 0 = true) (hT : tailB k ((masks l []).drop k) = true)
    (h : RGo P nt l.toArray l (fun _ st' => AOps ro P nt l.toArray Q (l.drop k) st') (l.take k) [] st) : AWP ro P nt (.region id l.toArray true) Q st := by
  obtain ⟨effs, st', hr, hc, hA⟩ := h
  rw [List.nil_append] at hc
  intro m0 a w hrel
  obtain ⟨h1, h2, h3⟩ := hr.spec
  have hml : (masks l []).length = l.length := masks_len l
  have htail : ∀ i, k ≤ i → i < l.toArray.size → ∃ m, (masks l.toArray.toList [])[i]? = some m ∧ ∀ j, j < i → m.testBit j = true := by
    intro i hki hil
    have hil' : i < (masks l []).length := by rw [hml]; simpa using hil
    refine ⟨(masks l [])[i], by simp, fun j hj => ?_⟩
    refine tailB_spec hT (i - k) _ ?_ j (by omega)
    rw [List.getElem?_drop, Nat.add_sub_cancel' hki]
    exact List.getElem?_eq_getElem hil'
  refine wpIn_region_any hm ?_
  have hlen : effs.length = (l.take k).length := by have := congrArg List.length h2; simpa using this
  by_cases hkl : k ≤ l.length
  · have hek : effs.length = k := by rw [hlen, List.length_take, Nat.min_eq_left hkl]
    refine any_orderT (m0 := m0) (st := st) (effs := effs) (k := k) hek (by simpa using h2) h3 (by simpa using hc) (by simpa using hdn) htail ?_ _ _ a _ (by simp) ?_ ?_ ?_ ?_
    · intro fuel X a w hX hall hno hf hr'
      refine any_tail (by simpa using hdn) fuel k X a w hX hall hno htail hf ?_
      have := hA m0 a w (by rw [h1]; exact hr')
      simpa using this
    · intro j o hj hX
      have : j < l.length := by simpa using (List.getElem?_eq_some_iff.1 hj).1
      simp [this] at hX
    · intro j _
      simp only [Array.getD_eq_getD_getElem?, Array.getElem?_replicate]
      split <;> rfl
    · exact Nat.le_trans (List.length_filter_le _ _) (by simp)
    · have : (fun j => (Array.replicate l.toArray.size false).getD j false) = fun _ => false := by
        funext j
        simp only [Array.getD_eq_getD_getElem?, Array.getElem?_replicate]
        split <;> rfl
      rw [this, stX_none]
      exact hrel.draw _
  · have hkl' := Nat.le_of_not_le hkl
    rw [List.take_of_length_le hkl'] at h2
    rw [List.drop_eq_nil_of_le hkl'] at hA
    refine any_order (m0 := m0) (st := st) (effs := effs) (by simpa using h2) h3 (by simpa using hc) (by simpa using hdn) (fun a w h => ?_) _ _ a _ (by simp) ?_ ?_ ?_
    · have := hA m0 a w (by rw [h1]; exact h)
      exact this
    · intro j o hj hX
      have : j < l.length := by simpa using (List.getElem?_eq_some_iff.1 hj).1
      simp [this] at hX
    · exact Nat.le_trans (List.length_filter_le _ _) (by simp)
    · have : (fun j => (Array.replicate l.toArray.size false).getD j false) = fun _ => false := by
        funext j
        simp only [Array.getD_eq_getD_getElem?, Array.getElem?_replicate]
        split <;> rfl
      rw [this, stX_none]
      exact hrel.draw _
end
end Go.Proofs.Ytcfleoaldoebhaa
