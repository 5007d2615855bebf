/-
  An argument that is a slice of events, opened. No conditions.
-/
import Derived.Test.YtcfleoaldoebhaaOpen
namespace Go.Proofs.Ytcfleoaldoebhaa
set_option linter.unusedSimpArgs false
set_option linter.unusedVariables false
open Go.ChangeShapes Go.WideShapes Go.ChangeAt Go.RowKit Go.Deep
section
variable {H : Type} {enc : TypeId × Value → H} {w : World} {a : Option Addr} {len cap : Nat} {d : DataW H} {p : List MemPlace}
theorem len4 {l : List Value} (h : l.length = 4) : ∃ a b c d, l = [a, b, c, d] := by
  cases l with
  | nil => cases h
  | cons a l =>
    cases l with
    | nil => cases h
    | cons b l =>
      cases l with
      | nil => cases h
      | cons c l =>
        cases l with
        | nil => cases h
        | cons d l =>
          cases l with
          | nil => exact ⟨a, b, c, d, rfl⟩
          | cons e l => simp at h
theorem evts_arg (h : DataW.Trod enc Try.prog w 0 (fun _ => true) true 22 (.slice a len cap) d p) :
    ∃ z : List Evt, Evts w (Lt w) (.slice a len cap) z ∧ (z = [] ∨ ∃ elems spare, d = .slice elems spare ∧ z.length ≤ elems.length + spare.length) := by
  obtain ⟨fuel, hf⟩ := h
  rcases open_slice Try.underlying22 hf with ⟨hcs, _⟩ | ⟨x, l, c, m, n, D, Pl, hcs, hb, hl, hm, hmm, hx, hi⟩
  · simp [Value.cells] at hcs
    obtain ⟨rfl, rfl, rfl⟩ := hcs
    exact ⟨[], Sl.nil _ _ _ _, .inl rfl⟩
  · simp [Value.cells] at hcs
    obtain ⟨rfl, rfl, rfl⟩ := hcs
    have hlm : len ≤ m := by rw [hmm]; split <;> omega
    have hex : ∀ i, ∃ e : Evt, i < len → ∀ j u, ([Value.int .i64 e.sys, .int .i64 e.ent.n, .int .i64 e.ent.gen, .int .i64 e.val])[j]? = some u → w.cell? (x.add (i * 4 + j)) = some u := by
      intro i
      by_cases hil : i < len
      · obtain ⟨cs', hc, ht⟩ := hi i (by omega)
        rw [show Try.prog.cellsOf 30 = 4 from by kernel_rfl] at hc
        obtain ⟨_, hcl, hat⟩ := World.cells?_some hc
        obtain ⟨ys, n', _, _, _, hl3, hfs⟩ := DataW.trod_struct Try.underlying30 ht
        have c3 : Try.prog.cellsOf 3 = 1 := by kernel_rfl
        have c28 : Try.prog.cellsOf 28 = 2 := by kernel_rfl
        obtain ⟨u0, u1, u2, u3, rfl⟩ := len4 hcl
        have f0 : DataW.trod enc Try.prog w 0 (fun _ => true) true n' 3 (List.take (Try.prog.cellsOf 3) [u0, u1, u2, u3]) = ys[0]? := hfs 0 _ rfl
        have f1 : DataW.trod enc Try.prog w 0 (fun _ => true) true n' 28 (List.take (Try.prog.cellsOf 28) [u1, u2, u3]) = ys[1]? := hfs 1 _ rfl
        have f2 : DataW.trod enc Try.prog w 0 (fun _ => true) true n' 3 (List.take (Try.prog.cellsOf 3) [u3]) = ys[2]? := hfs 2 _ rfl
        rw [c3] at f0 f2
        rw [c28] at f1
        have hl3 : ys.length = 3 := hl3
        rw [List.getElem?_eq_getElem (by omega)] at f0 f1 f2
        obtain ⟨k0, e0, _⟩ := DataW.trod_int Try.underlying3 f0
        obtain ⟨k3, e3, _⟩ := DataW.trod_int Try.underlying3 f2
        obtain ⟨zs, n2, _, _, _, hl2, hgs⟩ := DataW.trod_struct Try.underlying28 f1
        have g0 : DataW.trod enc Try.prog w 0 (fun _ => true) true n2 3 (List.take (Try.prog.cellsOf 3) [u1, u2]) = zs[0]? := hgs 0 _ rfl
        have g1 : DataW.trod enc Try.prog w 0 (fun _ => true) true n2 3 (List.take (Try.prog.cellsOf 3) [u2]) = zs[1]? := hgs 1 _ rfl
        rw [c3] at g0 g1
        have hl2' : zs.length = 2 := hl2
        rw [List.getElem?_eq_getElem (by omega)] at g0 g1
        obtain ⟨k1, e1, _⟩ := DataW.trod_int Try.underlying3 g0
        obtain ⟨k2, e2, _⟩ := DataW.trod_int Try.underlying3 g1
        simp only [List.take_succ_cons, List.take_zero, List.cons.injEq, and_true] at e0 e1 e2 e3
        subst e0 e1 e2 e3
        refine ⟨⟨k0, ⟨k1, k2⟩, k3⟩, fun _ j u hu => ?_⟩
        have hj : j < 4 := (List.getElem?_eq_some_iff.1 hu).1
        have := hat j hj
        rw [Go.Deep.add_add] at this
        rw [this]
        exact hu
      · exact ⟨⟨0, ⟨0, 0⟩, 0⟩, fun h => absurd h hil⟩
    obtain ⟨f, hf'⟩ := Classical.axiomOfChoice hex
    refine ⟨(List.range len).map f, sl_of_cells (cs := fun e => [Value.int .i64 e.sys, .int .i64 e.ent.n, .int .i64 e.ent.gen, .int .i64 e.val]) hl (by simp) (by omega) (fun _ => rfl) (fun _ => rfl) (fun i hi' j u hu => ?_), .inr ⟨_, _, (Prod.mk.inj hx).1, by simp⟩⟩
    simp only [List.length_map, List.length_range] at hi'
    exact hf' i hi' j u (by simpa using hu)
end
end Go.Proofs.Ytcfleoaldoebhaa
