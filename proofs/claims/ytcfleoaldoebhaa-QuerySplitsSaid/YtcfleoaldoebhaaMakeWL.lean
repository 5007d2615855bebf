/-
  Made components and worlds are small. No conditions.
-/
import Derived.Test.YtcfleoaldoebhaaAMw
namespace Go.Proofs.Ytcfleoaldoebhaa
set_option linter.unusedVariables false
theorem cAt_mem {ks : List Kind} {l : List Int} {i : Nat} {c : Comp} (h : c ∈ (cAt ks l i).1) : ∃ (j : Nat) (hj : j < ks.length) (q : List Int), j < i ∧ c = ⟨j, (vAt ks[j].fields q ks[j].fields.length).1⟩ := by
  induction i with
  | zero => cases h
  | succ i ih =>
    by_cases hi : i < ks.length
    · by_cases h2 : nextV (cAt ks l i).2 3 = 2
      · rw [cAt_no hi h2] at h
        obtain ⟨j, hj, q, h3, h4⟩ := ih h
        exact ⟨j, hj, q, by omega, h4⟩
      · rw [cAt_yes hi h2] at h
        rcases List.mem_append.1 h with h | h
        · obtain ⟨j, hj, q, h3, h4⟩ := ih h
          exact ⟨j, hj, q, by omega, h4⟩
        · rw [List.mem_singleton.1 h]
          exact ⟨i, hi, _, by omega, rfl⟩
    · rw [cAt, List.getElem?_eq_none (by omega)] at h
      obtain ⟨j, hj, q, h3, h4⟩ := ih h
      exact ⟨j, hj, q, by omega, h4⟩
theorem wAt_mem {ks : List Kind} {l : List Int} {i : Nat} {it : Item} (h : it ∈ (wAt ks l i).2.1) : ∃ (j : Nat) (q : List Int), j < i ∧ (wAt ks l i).1[j]? = some it.ent.gen ∧ it.ent.n = j ∧ it.comps = (genComps ks q).1 := by
  induction i with
  | zero => cases h
  | succ i ih =>
    have hl := wAt_len1 ks l i
    have hup : ∀ (x : Int) (g : Int) (j : Nat), (wAt ks l i).1[j]? = some g → ((wAt ks l i).1 ++ [x])[j]? = some g := fun x g j hg => by
      rw [List.getElem?_append_left (List.getElem?_eq_some_iff.1 hg).1, hg]
    rw [wAt] at h ⊢
    split
    · rename_i hs
      rw [if_pos hs] at h
      obtain ⟨j, q, h1, h2, h3, h4⟩ := ih h
      exact ⟨j, q, by omega, hup _ _ _ h2, h3, h4⟩
    · rename_i hs
      rw [if_neg hs] at h
      rcases List.mem_append.1 h with h | h
      · obtain ⟨j, q, h1, h2, h3, h4⟩ := ih h
        exact ⟨j, q, by omega, hup _ _ _ h2, h3, h4⟩
      · rw [List.mem_singleton.1 h]
        exact ⟨i, _, by omega, by rw [List.getElem?_append_right (by omega), hl]; simp, rfl, rfl⟩
theorem genKinds_small (l : List Int) : (genKinds l).1.length ≤ 4 ∧ ∀ k ∈ (genKinds l).1, k.fields.length ≤ 3 := by
  have h := nextV_range l (n := 4) (by decide)
  refine ⟨by rw [genKinds_cnt]; omega, ?_⟩
  rw [genKinds_at]
  intro k hk
  exact (kAt_rng _ _ k hk).1
theorem genWorld_small (l : List Int) : (genWorld l).items.length ≤ 12 ∧ (genWorld l).gens.length ≤ 12 ∧ ∀ it ∈ (genWorld l).items, it.comps.length ≤ 4 ∧ ∀ c ∈ it.comps, c.vals.length ≤ 3 := by
  have h := nextV_range (genKinds l).2 (n := 12) (by decide)
  have h1 := wAt_len2 (genKinds l).1 (nextL (genKinds l).2 12) (nextV (genKinds l).2 12).toNat
  have h2 := wAt_len1 (genKinds l).1 (nextL (genKinds l).2 12) (nextV (genKinds l).2 12).toNat
  obtain ⟨h3, h4⟩ := genKinds_small l
  refine ⟨Nat.le_trans h1 (by omega), Nat.le_trans (Nat.le_of_eq h2) (by omega), fun it hit => ?_⟩
  obtain ⟨j, q, _, _, _, hc⟩ := wAt_mem hit
  rw [hc]
  refine ⟨Nat.le_trans (cAt_len _ _ _) h3, fun c hcm => ?_⟩
  obtain ⟨j, hj, q, _, rfl⟩ := cAt_mem hcm
  exact Nat.le_trans (vAt_len _ _ _) (h4 _ (List.getElem_mem hj))
end Go.Proofs.Ytcfleoaldoebhaa
