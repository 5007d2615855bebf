/-
  A call that is handed one object by its pointer, and hands it back changed. No conditions.
-/
import Derived.Test.YtcfleoaldoebhaaAbs13
namespace Go.Proofs.Ytcfleoaldoebhaa
set_option linter.unusedVariables false
theorem put_back {Zr : Zs} {z' : Slot × List Nat} : ∀ {S : List Slot} {p : Nat} {e : Slot}, S[p]? = some e → Zr.map (·.1) = S.eraseIdx p → ∃ Z2 : Zs, Z2.Perm (z' :: Zr) ∧ Z2.map (·.1) = S.set p z'.1
  | [], p, e, h, _ => by simp at h
  | a :: S, 0, e, h, hm => ⟨z' :: Zr, .refl _, by simpa using hm⟩
  | a :: S, p + 1, e, h, hm => by
    simp only [List.eraseIdx_cons_succ] at hm
    cases Zr with
    | nil => simp at hm
    | cons zr Zr =>
      simp only [List.map_cons, List.cons.injEq] at hm
      obtain ⟨Z0, h1, h2⟩ := put_back (Zr := Zr) (z' := z') (S := S) (p := p) (e := e) (by simpa using h) hm.2
      exact ⟨zr :: Z0, (h1.cons zr).trans (List.Perm.swap ..), by simp [h2, hm.1]⟩
section
variable {P : Program} {dst : Option Tmp} {f : FuncId} {xs : List (Operand × AV)} {ats : Array TypeId} {ty : TypeId} {pos : String} {after : Array Edge} {g : Option (Nat × Bool)} {X p : Nat} {o o' : AO} {r : AV}
/-- The function takes one object and hands it back. -/
def PO (P : Program) (f : FuncId) (args : List AV) (X : Nat) (o : AO) (r : AV) (o' : AO) : Prop := Spec P f args [(X, o)] fun r' S' => r' = r ∧ S' = [(X, o')]
theorem OpT.callO (h : PO P f (xs.map (·.2)) X o r o') (ht : noTup xs = true := by rfl) : OpT P ⟨dst, .call ⟨.value (.func f), (xs.map (·.1)).toArray, ats⟩, ty, pos, after, g⟩ xs [(p, (X, o))] r.frz [(p, (X, o'))] := by
  intro nt m0 T S a w hx hS hd hr
  obtain ⟨m, N, Z, rfl, h2, h3, h4⟩ := hr
  have h2' : Z.map (·.1) = S := h2
  have hSp := hS (p, (X, o)) (by simp)
  simp only at hSp
  have hSp2 := hSp
  rw [← h2', List.getElem?_map] at hSp2
  cases hz : Z[p]? with
  | none => rw [hz] at hSp2; cases hSp2
  | some z =>
    rw [hz] at hSp2
    simp only [Option.map_some, Option.some.injEq] at hSp2
    have G1 := h3.perm (perm_erase hz)
    refine wp_call (fun _ => rfl) h.fn ?_
    refine (h.run (S.eraseIdx p) m N (z :: Z.eraseIdx p) _ (by simp [hSp2, map_erase, h2']) G1.self (by have := vts_of (noTup_spec ht) fun q hq => h4.ev (hx q hq); simpa [Function.comp_def] using this)).mono ?_
    rintro e w' ⟨v, r', S', m', N', Z', br, rfl, rfl, hm, G', hv, rfl, rfl⟩
    obtain ⟨G2, hle⟩ := Good.freeze (ex := br) (ex' := []) (by simpa using h3.after G') _ rfl
    cases Z' with
    | nil => simp at hm
    | cons z' Zr =>
      simp only [List.map_cons, List.cons_append, List.nil_append, List.cons.injEq] at hm
      obtain ⟨Z2, h5, h6⟩ := put_back (z' := z') hSp hm.2
      refine ⟨v, rfl, { m' with F := fun b => m'.F b ∨ b ∈ br }, N', Z2, rfl, ?_, G2.perm h5.symm, ((h4.mono G'.le).mono hle).put hd (VV.frz hle (fun b hb => ⟨.inr hb, rfl⟩) hv)⟩
      simp only [setAll]
      rw [h6, hm.1]
end
theorem Ends.plainS {P : Program} {t : Nat} {Sf S' : List Slot} {Q : AV → List Slot → Prop} {st : St} {a : AV} (h : look st.T t = some a) (ha : ntup a = true) (hS : (S' ++ Sf).Sublist st.S) (hQ : Q a S') : Ends P [.tmp t] Sf Q st :=
  ⟨[a], [a], st.S, S', .cons (.tmp h) ha .nil, .cons (.cell .same) .nil, hS, hQ⟩
namespace W
variable {P : Program} {dst : Option Tmp} {ty : TypeId} {pos : String} {after : Array Edge} {g : Option (Nat × Bool)} {T : List (Nat × AV)} {S : List Slot} {c : Option (List Bool)} {X p : Nat} {o o' : AO} {r r' : AV} {f : FuncId} {ats : Array TypeId}
theorem callO1 {x0 : Operand} {v0 : AV} (h0 : Rd c T x0 v0) (hSp : At S p (X, o)) (h : PO P f [v0] X o r o') (ht : noTup [(x0, v0)] = true) (hf : r.frz = r') : Stp c P ⟨dst, .call ⟨.value (.func f), #[x0], ats⟩, ty, pos, after, g⟩ T S [(x0, v0)] [(p, (X, o))] r' [(p, (X, o'))] := ⟨hf ▸ OpT.callO (xs := [(x0, v0)]) h ht, (.cons h0 .nil), .cons hSp .nil⟩
theorem callO2 {x0 x1 : Operand} {v0 v1 : AV} (h0 : Rd c T x0 v0) (h1 : Rd c T x1 v1) (hSp : At S p (X, o)) (h : PO P f [v0, v1] X o r o') (ht : noTup [(x0, v0), (x1, v1)] = true) (hf : r.frz = r') : Stp c P ⟨dst, .call ⟨.value (.func f), #[x0, x1], ats⟩, ty, pos, after, g⟩ T S [(x0, v0), (x1, v1)] [(p, (X, o))] r' [(p, (X, o'))] := ⟨hf ▸ OpT.callO (xs := [(x0, v0), (x1, v1)]) h ht, (.cons h0 (.cons h1 .nil)), .cons hSp .nil⟩
theorem callO3 {x0 x1 x2 : Operand} {v0 v1 v2 : AV} (h0 : Rd c T x0 v0) (h1 : Rd c T x1 v1) (h2 : Rd c T x2 v2) (hSp : At S p (X, o)) (h : PO P f [v0, v1, v2] X o r o') (ht : noTup [(x0, v0), (x1, v1), (x2, v2)] = true) (hf : r.frz = r') : Stp c P ⟨dst, .call ⟨.value (.func f), #[x0, x1, x2], ats⟩, ty, pos, after, g⟩ T S [(x0, v0), (x1, v1), (x2, v2)] [(p, (X, o))] r' [(p, (X, o'))] := ⟨hf ▸ OpT.callO (xs := [(x0, v0), (x1, v1), (x2, v2)]) h ht, (.cons h0 (.cons h1 (.cons h2 .nil))), .cons hSp .nil⟩
theorem callO4 {x0 x1 x2 x3 : Operand} {v0 v1 v2 v3 : AV} (h0 : Rd c T x0 v0) (h1 : Rd c T x1 v1) (h2 : Rd c T x2 v2) (h3 : Rd c T x3 v3) (hSp : At S p (X, o)) (h : PO P f [v0, v1, v2, v3] X o r o') (ht : noTup [(x0, v0), (x1, v1), (x2, v2), (x3, v3)] = true) (hf : r.frz = r') : Stp c P ⟨dst, .call ⟨.value (.func f), #[x0, x1, x2, x3], ats⟩, ty, pos, after, g⟩ T S [(x0, v0), (x1, v1), (x2, v2), (x3, v3)] [(p, (X, o))] r' [(p, (X, o'))] := ⟨hf ▸ OpT.callO (xs := [(x0, v0), (x1, v1), (x2, v2), (x3, v3)]) h ht, (.cons h0 (.cons h1 (.cons h2 (.cons h3 .nil)))), .cons hSp .nil⟩
theorem callO5 {x0 x1 x2 x3 x4 : Operand} {v0 v1 v2 v3 v4 : AV} (h0 : Rd c T x0 v0) (h1 : Rd c T x1 v1) (h2 : Rd c T x2 v2) (h3 : Rd c T x3 v3) (h4 : Rd c T x4 v4) (hSp : At S p (X, o)) (h : PO P f [v0, v1, v2, v3, v4] X o r o') (ht : noTup [(x0, v0), (x1, v1), (x2, v2), (x3, v3), (x4, v4)] = true) (hf : r.frz = r') : Stp c P ⟨dst, .call ⟨.value (.func f), #[x0, x1, x2, x3, x4], ats⟩, ty, pos, after, g⟩ T S [(x0, v0), (x1, v1), (x2, v2), (x3, v3), (x4, v4)] [(p, (X, o))] r' [(p, (X, o'))] := ⟨hf ▸ OpT.callO (xs := [(x0, v0), (x1, v1), (x2, v2), (x3, v3), (x4, v4)]) h ht, (.cons h0 (.cons h1 (.cons h2 (.cons h3 (.cons h4 .nil))))), .cons hSp .nil⟩
theorem callO6 {x0 x1 x2 x3 x4 x5 : Operand} {v0 v1 v2 v3 v4 v5 : AV} (h0 : Rd c T x0 v0) (h1 : Rd c T x1 v1) (h2 : Rd c T x2 v2) (h3 : Rd c T x3 v3) (h4 : Rd c T x4 v4) (h5 : Rd c T x5 v5) (hSp : At S p (X, o)) (h : PO P f [v0, v1, v2, v3, v4, v5] X o r o') (ht : noTup [(x0, v0), (x1, v1), (x2, v2), (x3, v3), (x4, v4), (x5, v5)] = true) (hf : r.frz = r') : Stp c P ⟨dst, .call ⟨.value (.func f), #[x0, x1, x2, x3, x4, x5], ats⟩, ty, pos, after, g⟩ T S [(x0, v0), (x1, v1), (x2, v2), (x3, v3), (x4, v4), (x5, v5)] [(p, (X, o))] r' [(p, (X, o'))] := ⟨hf ▸ OpT.callO (xs := [(x0, v0), (x1, v1), (x2, v2), (x3, v3), (x4, v4), (x5, v5)]) h ht, (.cons h0 (.cons h1 (.cons h2 (.cons h3 (.cons h4 (.cons h5 .nil)))))), .cons hSp .nil⟩
end W
end Go.Proofs.Ytcfleoaldoebhaa
