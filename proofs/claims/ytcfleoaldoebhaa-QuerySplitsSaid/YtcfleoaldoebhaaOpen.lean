/-
  Arguments that came in, opened: a slice of integers, a slice of events, an integer. No conditions.
-/
import Derived.Test.YtcfleoaldoebhaaMem
import Derived.Test.YtcfleoaldoebhaaChecked
import Derived.WalkKit
import Derived.ProofKit
import Derived.OpenShut
import Derived.ShutString
import Derived.ChangeOld
import Derived.Below
import Derived.SizedLaws
import Derived.Deep.Slices
import Derived.Deep.Fields
import Derived.ChangeSame
namespace Go.Proofs.Ytcfleoaldoebhaa
set_option linter.unusedSimpArgs false
set_option linter.unusedVariables false
open Go.ChangeShapes Go.WideShapes Go.ChangeAt Go.RowKit Go.Deep

theorem i64_of_wf {x : Int} (h : (Lit.int .i64 x).wf = true) : I64 x := by
  have := h
  simp [Lit.wf, IntKind.min, IntKind.max, IntKind.signed, IntKind.bits] at this
  unfold I64
  omega

theorem flat_at {α : Type} {sz : Nat} {cs : α → List Value} {f : Nat → Option Value} (hcs : ∀ x, (cs x).length = sz) : ∀ (l : List α) (off : Nat), (∀ i (hi : i < l.length) j u, (cs l[i])[j]? = some u → f (off + (i * sz + j)) = some u) →
    ∀ j u, (l.flatMap cs)[j]? = some u → f (off + j) = some u := by
  intro l
  induction l with
  | nil => intro off _ j u h; simp at h
  | cons x l ih =>
    intro off h j u hj
    rw [List.flatMap_cons] at hj
    rcases Nat.lt_or_ge j sz with hlt | hge
    · rw [List.getElem?_append_left (by rw [hcs]; exact hlt)] at hj
      have := h 0 (by simp) j u hj
      simpa using this
    · rw [List.getElem?_append_right (by rw [hcs]; exact hge), hcs] at hj
      have := ih (off + sz) (fun i hi j u hu => by
        have := h (i + 1) (by simp; omega) j u hu
        rwa [Nat.add_mul, Nat.one_mul, show off + (i * sz + sz + j) = off + sz + (i * sz + j) by omega] at this) (j - sz) u hj
      rwa [show off + sz + (j - sz) = off + j by omega] at this
theorem cells_flat {α : Type} {sz : Nat} {cs : α → List Value} {C : List Value → α → Prop} (hcs : ∀ x, (cs x).length = sz) (hC : ∀ x, C (cs x) x) (l : List α) : Cells C sz (l.flatMap cs) l := by
  induction l with
  | nil => rfl
  | cons x l ih => exact ⟨cs x, l.flatMap cs, by rw [List.flatMap_cons], hcs x, hC x, ih⟩
theorem sl_of_cells {α : Type} {w : World} {sz : Nat} {C : World → Reg → List Value → α → Prop} {a : Addr} {n cap : Nat} {l : List α} {cs : α → List Value} (hn : n ≤ cap) (hl : l.length = n) (hsz : 0 < sz) (hcs : ∀ x, (cs x).length = sz) (hC : ∀ x, C w (Lt w) (cs x) x)
    (hcell : ∀ i (hi : i < l.length) j u, (cs l[i])[j]? = some u → w.cell? (a.add (i * sz + j)) = some u) : Sl w (Lt w) sz C (.slice (some a) n cap) l := by
  subst hl
  refine ⟨l.flatMap cs, ⟨?_, some a, cap, rfl, hn, fun h0 => ?_⟩, cells_flat hcs hC l⟩
  · have := (cells_flat (C := fun _ _ => True) hcs (fun _ => trivial) l).length
    exact this
  · obtain ⟨b, off, spot⟩ := a
    have h1 : ∃ u, (cs l[0])[0]? = some u := ⟨_, List.getElem?_eq_getElem (by rw [hcs]; exact hsz)⟩
    obtain ⟨u, hu⟩ := h1
    have h2 := hcell 0 h0 0 u hu
    have hspot : spot = none := by simpa [Addr.add] using World.cell?_spot h2
    subst hspot
    refine ⟨b, off, rfl, ?_, ?_⟩
    · rw [Go.WideShapes.add_plain] at h2
      unfold World.cell? at h2
      simp only at h2
      show b < w.heap.size
      rcases Nat.lt_or_ge b w.heap.size with h | h
      · exact h
      · rw [Array.getElem?_eq_none h] at h2
        cases h2
    · refine flat_at (f := fun k => w.cell? ⟨b, k, none⟩) hcs l off fun i hi j u hu => ?_
      have := hcell i hi j u hu
      rwa [Go.WideShapes.add_plain] at this

section
variable {H : Type} {enc : TypeId × Value → H} {w : World} {a : Option Addr} {len cap : Nat} {d : DataW H} {p : List MemPlace}
theorem ints_arg (h : DataW.Trod enc Try.prog w 0 (fun _ => true) true 35 (.slice a len cap) d p) :
    ∃ z : List Int, Ints w (Lt w) (.slice a len cap) z ∧ (z = [] ∨ ∃ elems spare, d = .slice elems spare ∧ z.length ≤ elems.length + spare.length) := by
  obtain ⟨fuel, hf⟩ := h
  rcases open_slice Try.underlying35 hf with ⟨hcs, _⟩ | ⟨x, l, c, m, n, D, Pl, hcs, hb, hl, hm, hmm, hx, hi⟩
  · simp [Value.cells] at hcs
    obtain ⟨rfl, rfl, rfl⟩ := hcs
    exact ⟨[], Sl.nil _ _ _ _, .inl rfl⟩
  · simp [Value.cells] at hcs
    obtain ⟨rfl, rfl, rfl⟩ := hcs
    have hlm : len ≤ m := by rw [hmm]; split <;> omega
    have hex : ∀ i, ∃ e : Int, i < len → ∀ j u, ([Value.int .i64 e])[j]? = some u → w.cell? (x.add (i * 1 + j)) = some u := by
      intro i
      by_cases hil : i < len
      · obtain ⟨cs', hc, ht⟩ := hi i (by omega)
        rw [show Try.prog.cellsOf 3 = 1 from by kernel_rfl] at hc
        obtain ⟨_, hcl, hat⟩ := World.cells?_some hc
        obtain ⟨k, rfl, _⟩ := DataW.trod_int Try.underlying3 ht
        refine ⟨k, fun _ j u hu => ?_⟩
        have hj : j = 0 := by
          have := (List.getElem?_eq_some_iff.1 hu).1
          simp at this
          omega
        subst hj
        have := hat 0 (by omega)
        rw [Go.Deep.add_add] at this
        rw [this, hu]
      · exact ⟨0, fun h => absurd h hil⟩
    obtain ⟨f, hf'⟩ := Classical.axiomOfChoice hex
    refine ⟨(List.range len).map f, sl_of_cells (cs := fun e => [Value.int .i64 e]) hl (by simp) (by omega) (fun _ => rfl) (fun _ => rfl) (fun i hi' j u hu => ?_), .inr ⟨_, _, (Prod.mk.inj hx).1, by simp⟩⟩
    simp only [List.length_map, List.length_range] at hi'
    exact hf' i hi' j u (by simpa using hu)
end
end Go.Proofs.Ytcfleoaldoebhaa
