/-
  Ends of functions without results; smaller helps. No conditions.
-/
import Derived.Test.YtcfleoaldoebhaaAbs22
namespace Go.Proofs.Ytcfleoaldoebhaa
set_option linter.unusedVariables false
theorem Ends.void {P : Program} {Sf : List Slot} {Q : AV → List Slot → Prop} {st : St} (S' : List Slot) (hQ : Q (.tup []) S') (hS : (S' ++ Sf).Sublist st.S := by (repeat (first | exact List.Sublist.refl _ | exact List.Sublist.slnil | apply List.Sublist.cons_cons | apply List.Sublist.cons))) : Ends P [] Sf Q st := ⟨[], [], st.S, S', .nil, .nil, hS, hQ⟩
/-- What reads as the first value reads as the second one, too. -/
inductive Sub1 : AV → AV → Prop
  | refl {a : AV} : Sub1 a a
  | nil {t : TypeId} {sz : Nat} : Sub1 (.prim (.slice none 0 0)) (.lst false t sz [])
inductive Subs : List AV → List AV → Prop
  | nil : Subs [] []
  | cons {a b : AV} {as bs : List AV} (h : Sub1 a b) (k : Subs as bs) : Subs (a :: as) (b :: bs)
theorem Subs.vts {m : Mem} {as bs : List AV} (h : Subs as bs) : ∀ {us : List Value}, VTs m as us [] → VTs m bs us [] := by
  induction h with
  | nil => exact fun h => h
  | @cons a b as bs h k ih =>
    intro us hv
    obtain ⟨v, vs', b1, b2, rfl, e, h1, h2⟩ := (VTs_cons hv.ntup).1 hv
    obtain ⟨rfl, rfl⟩ : b1 = [] ∧ b2 = [] := by simpa using e.symm
    cases h with
    | refl => exact (VTs_cons hv.ntup).2 ⟨v, vs', [], [], rfl, rfl, h1, ih h2⟩
    | nil =>
      refine (VTs_cons rfl).2 ⟨v, vs', [], [], rfl, rfl, ?_, ih h2⟩
      obtain ⟨⟨h3, _⟩, _⟩ := h1
      injection h3 with h3
      subst h3
      exact ⟨rfl, none, 0, rfl, Nat.le_refl _, fun e he => (by cases he), fun h0 => absurd h0 (by simp)⟩
theorem Spec.arg {P : Program} {f : FuncId} {args args' : List AV} {S : List Slot} {Q : AV → List Slot → Prop} (h : Spec P f args S Q) (k : Subs args' args) : Spec P f args' S Q :=
  ⟨h.fn, fun Sf m N Z vals h1 h2 h3 => h.run Sf m N Z vals h1 h2 (k.vts h3)⟩
theorem PS.arg {P : Program} {f : FuncId} {args args' : List AV} {r : AV} (h : PS P f args r) (k : Subs args' args := by (repeat (first | exact .nil | refine .cons .refl ?_ | refine .cons .nil ?_))) : PS P f args' r := Spec.arg h k
theorem PO.arg {P : Program} {f : FuncId} {args args' : List AV} {X : Nat} {o o' : AO} {r : AV} (h : PO P f args X o r o') (k : Subs args' args := by (repeat (first | exact .nil | refine .cons .refl ?_ | refine .cons .nil ?_))) : PO P f args' X o r o' := Spec.arg h k
end Go.Proofs.Ytcfleoaldoebhaa
