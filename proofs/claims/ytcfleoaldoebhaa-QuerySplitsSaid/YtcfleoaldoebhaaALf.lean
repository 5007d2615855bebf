/- The first index at which a test holds. -/
import Derived.Test.YtcfleoaldoebhaaAbs23
import Derived.Test.YtcfleoaldoebhaaEnc
namespace Go.Proofs.Ytcfleoaldoebhaa
set_option linter.unusedVariables false
def idxF {α : Type} (l : List α) (p : α → Bool) : Int := match l.findIdx? p with
  | some i => i
  | none => -1
theorem idxF_none {α : Type} {l : List α} {p : α → Bool} (h : ∀ j (hj : j < l.length), p l[j] = false) : idxF l p = -1 := by
  have : l.findIdx? p = none := by
    rw [List.findIdx?_eq_none_iff]
    intro x hx
    obtain ⟨j, hj, rfl⟩ := List.getElem_of_mem hx
    exact h j hj
  simp [idxF, this]
theorem idxF_some {α : Type} {l : List α} {p : α → Bool} {i : Nat} (hi : i < l.length) (e : p l[i] = true) (h : ∀ j (hj : j < i), p (l[j]'(by omega)) = false) : idxF l p = i := by
  have : l.findIdx? p = some i := by
    rw [List.findIdx?_eq_some_iff_getElem]
    exact ⟨hi, e, fun j hj => by simpa using h j hj⟩
  simp [idxF, this]
theorem idxF_any {α : Type} (l : List α) (p : α → Bool) : decide ((0 : Int) ≤ idxF l p) = l.any p := by
  unfold idxF
  cases h : l.findIdx? p with
  | none =>
    rw [List.findIdx?_eq_none_iff] at h
    have : l.any p = false := List.any_eq_false.2 fun x hx => by rw [h x hx]; simp
    rw [this]
    rfl
  | some i =>
    obtain ⟨hi, e, _⟩ := List.findIdx?_eq_some_iff_getElem.1 h
    have : l.any p = true := List.any_eq_true.2 ⟨_, List.getElem_mem hi, e⟩
    rw [this]
    simp
theorem idxF_range {α : Type} (l : List α) (p : α → Bool) : -1 ≤ idxF l p ∧ idxF l p < l.length ∧ idxF l p ≤ l.length := by
  unfold idxF
  cases h : l.findIdx? p with
  | none => simp; omega
  | some i =>
    obtain ⟨hi, _⟩ := List.findIdx?_eq_some_iff_getElem.1 h
    simp; omega
end Go.Proofs.Ytcfleoaldoebhaa
