/-
  Empty literals; is a slice nil. No conditions.
-/
import Derived.Test.YtcfleoaldoebhaaAbs20
import Derived.Lib.SliceRun
namespace Go.Proofs.Ytcfleoaldoebhaa
set_option linter.unusedVariables false
set_option linter.unusedSimpArgs false
variable {ro : Option Nat}
open Go.RowKit
theorem lp_nextS {β : Type} {R : β → Prop} {μ : β → Nat} {m : Nat} {inv : β → St} {st : St} (b' : β) (hR : R b') (hS : (inv b').S.Sublist st.S) (hμ : μ b' < m := by omega) (hT : Looks st.T (inv b').T := by exact (by (repeat (first | exact .nil | refine .cons (by first | rfl | assumption) ?_)))) : ∃ b', R b' ∧ μ b' < m ∧ st.Le (inv b') := ⟨b', hR, hμ, hT, hS⟩
theorem cells_frz (a : AV) : a.frz.cells = AV.frzs a.cells := by cases a <;> rfl
theorem Frz.fp {a b : AV} (h : Frz a b) : Frz (.fp a.cells) (.fp b.cells) := ⟨by show AV.fp (AV.frzs a.cells) = _; rw [← cells_frz, h.h]⟩
instance {f : FuncId} {l l' : List AV} [h : Frzs l l'] : Frz (.fn f l) (.fn f l') := ⟨by show AV.fn f (AV.frzs l) = _; rw [h.h]⟩
instance {l l' : List AV} [h : Frzs l l'] : Frz (.fp l) (.fp l') := ⟨by show AV.fp (AV.frzs l) = _; rw [h.h]⟩
theorem Frz.fn1 {f : FuncId} {a b : AV} (h : Frz a b) : Frz (.fn f [a]) (.fn f [b]) := ⟨by show AV.fn f [a.frz] = _; rw [h.h]⟩
section
variable {P : Program} {nt : Nat} {ops : Array Oper} {Q : Exit → St → Prop} {rest : List Oper} {T : List (Nat × AV)} {S : List Slot} {dst : Option Tmp} {ty t te : TypeId} {pos : String} {after : Array Edge} {g : Option (Nat × Bool)} {x y : Operand} {X p sz : Nat} {l : List AV}
theorem OpT.lit0 (he : tElem P t = some te) (hsz : tSz P te = some sz) : OpT P ⟨dst, .buildSlice t 0 #[], ty, pos, after, g⟩ [] [(p, (X, .gone))] (.sl X 0 0) [(p, (X, .row te sz []))] := by
  refine OpT.new_ (fun m a hx => ?_)
  refine ⟨#[], 0, .slice (some ⟨m.w.heap.size, 0, none⟩) 0 0, ?_, by simp, by simp, by decide, by simp, ⟨by simp, rfl⟩, .inr ⟨0, rfl, Nat.le_refl _, rfl⟩⟩
  have hr : (Instr.buildSlice t 0 #[]).run P m.w = .ok (.slice (some ⟨m.w.heap.size, 0, none⟩) 0 0) (m.w.alloc (.cells #[] te)) := by
    simp [Instr.buildSlice, run_underlying (tElem_spec he), run_sizeOf hsz, Sem.run_bind, Result.andThen_ok, Sem.run_pure, Instr.fill, newRow]
    rw [show ∀ f : Nat → Value, Array.map f (Array.range 0) = #[] from fun f => Array.size_eq_zero_iff.1 (by simp)]
  simp [execOp, Sem.run_bind, hr, Sem.run_pure, Result.andThen_ok]
/-- An operation whose result is one of several values. -/
theorem AOps.val {o : Oper} {xs : List (Operand × AV)} {K : AV → Prop} (hg : o.guard = none) (hnd : ∀ c, o.op ≠ .defer c) (h : ∀ (m : Mem) (a : Act), (∀ q ∈ xs, VV m q.2 (a.eval q.1) []) → ∃ u v, (execOp a.eval o).run P m.w = .ok (.value u) m.w ∧ VV m v u [] ∧ K v) (hx : Evs T xs) (hd : dstOk o.dst nt = true)
    (k : ∀ v, K v → AOps ro P nt ops Q rest ⟨putD T o.dst v, S⟩) : AOps ro P nt ops Q (o :: rest) ⟨T, S⟩ := by
  rintro m0 a w ⟨m, N, Z, rfl, h2, h3, h4⟩
  refine wpListIn_plain hg fun K' hK => ⟨fun _ _ => trivial, ?_⟩
  obtain ⟨u, v, h5, h6, h7⟩ := h m a fun q hq => h4.ev (hx.all q hq)
  rw [Oper.semAt_eq _ _ _ hnd, h5]
  exact hK _ _ (k v h7 m0 _ _ ⟨m, N, Z, rfl, h2, h3, h4.put (dstOk_lt hd) h6⟩)
theorem AOps.isNil [TEl P t te] (k : ∀ b : Bool, (b = true → l = []) → AOps ro P nt ops Q rest ⟨putD T dst (.prim (.bool b)), S⟩) {t' : TypeId} (hx : ev T x = some (.lst false t' sz l) := by rfl) (hd : dstOk dst nt = true := by rfl) : AOps ro P nt ops Q (⟨dst, .binOp .eql t x (.const (.slice none 0 0)) t, ty, pos, after, none⟩ :: rest) ⟨T, S⟩ := by
  refine AOps.val (xs := [(x, .lst false t' sz l)]) (K := fun v => ∃ b : Bool, (b = true → l = []) ∧ v = .prim (.bool b)) rfl (by simp) (fun m a hv => ?_) (.cons hx .nil) hd fun v ⟨b, hb, e⟩ => e ▸ k b hb
  obtain ⟨_, A, cap, e1, _, _, h0⟩ := hv _ (List.mem_cons_self ..)
  injection e1 with e1
  simp only at e1
  refine ⟨.bool A.isNone, .prim (.bool A.isNone), ?_, vv_prim _, A.isNone, fun hn => ?_, rfl⟩
  · have := Lib.run_eql_slice_nil (P := P) m.w t te A l.length cap 0 0 (tElem_spec TEl.h)
    have hc : a.eval (.const (.slice none 0 0)) = .slice none 0 0 := rfl
    have hq : (eqGuard .eql t x (.const (.slice none 0 0)) (.slice A l.length cap) (.slice none 0 0)).run P m.w = .ok () m.w := rfl
    simp [execOp, e1, hc, Sem.run_bind, Sem.run_pure, Result.andThen_ok, this, hq]
  · cases l with
    | nil => rfl
    | cons a l =>
      obtain ⟨b, off, arr, t, r, e2, _⟩ := h0 (by simp)
      rw [e2] at hn
      cases hn
/-- An empty literal. -/
theorem AOps.goL0 [TEl P t te] [TSize P te sz] (k : ∀ X, AOps ro P nt ops Q rest ⟨putD T dst (.sl X 0 0), (X, .row te sz []) :: S⟩) (hd : dstOk dst nt = true := by rfl) : AOps ro P nt ops Q (⟨dst, .buildSlice t 0 #[], ty, pos, after, none⟩ :: rest) ⟨T, S⟩ :=
  AOps.rs fun X => AOps.step (o := ⟨dst, .buildSlice t 0 #[], ty, pos, after, none⟩) (xs := []) (rS := [(0, (X, .gone))]) rfl (OpT.lit0 TEl.h TSize.h) .nil (.cons .here .nil) hd (k X)
section
variable {Si Sl Sf : List Slot} {yv : Value} {xs : List (List AV)} {J : Nat → List Slot → Prop} {Jx : List Slot → Prop} {ats : Array TypeId} {i : Nat} {x0 x1 : Operand} {v0 v1 : AV}
theorem AOps.yield1 (hY : Yld P yv xs J Jx) (hJ : J i Sl) (hi : xs[i]? = some [v0]) (kt : ∀ Sl', J (i + 1) Sl' → AOps ro P nt ops Q rest ⟨putD T dst (.prim (.bool true)), Si ++ (Sl' ++ Sf)⟩) (kf : ∀ Sl', Jx Sl' → AOps ro P nt ops Q rest ⟨putD T dst (.prim (.bool false)), Si ++ (Sl' ++ Sf)⟩)
    (hx : ev T x = some (.prim yv) := by rfl) (h0 : ev T x0 = some v0 := by rfl) (ht : noTup [(x0, v0)] = true := by rfl) (hd : dstOk dst nt = true := by rfl) : AOps ro P nt ops Q (⟨dst, .call ⟨.value x, #[x0], ats⟩, ty, pos, after, none⟩ :: rest) ⟨T, Si ++ (Sl ++ Sf)⟩ :=
  AOps.yield (ys := [(x0, v0)]) hY hJ hi hx (.cons h0 .nil) ht hd kt kf
theorem AOps.yield2 (hY : Yld P yv xs J Jx) (hJ : J i Sl) (hi : xs[i]? = some [v0, v1]) (kt : ∀ Sl', J (i + 1) Sl' → AOps ro P nt ops Q rest ⟨putD T dst (.prim (.bool true)), Si ++ (Sl' ++ Sf)⟩) (kf : ∀ Sl', Jx Sl' → AOps ro P nt ops Q rest ⟨putD T dst (.prim (.bool false)), Si ++ (Sl' ++ Sf)⟩)
    (hx : ev T x = some (.prim yv) := by rfl) (h0 : ev T x0 = some v0 := by rfl) (h1 : ev T x1 = some v1 := by rfl) (ht : noTup [(x0, v0), (x1, v1)] = true := by rfl) (hd : dstOk dst nt = true := by rfl) : AOps ro P nt ops Q (⟨dst, .call ⟨.value x, #[x0, x1], ats⟩, ty, pos, after, none⟩ :: rest) ⟨T, Si ++ (Sl ++ Sf)⟩ :=
  AOps.yield (ys := [(x0, v0), (x1, v1)]) hY hJ hi hx (.cons h0 (.cons h1 .nil)) ht hd kt kf
end
/-- A slice that is made, its elements as we say them. -/
theorem AOps.goM {kk kk' : IntKind} {zl : List Value} {ag : Bool} {m by_ : Nat} {i j : Int} (a : AV) [TEl P t te] [TZe P te zl] [TSize P te sz] [TAg P te ag] [TBy P te by_] (k : ∀ X, AOps ro P nt ops Q rest ⟨putD T dst (.sl X 0 m), (X, .row te sz (List.replicate m a)) :: S⟩)
    (hx : Rd none T x (.prim (.int kk i)) := by rfl) (hy : Rd none T y (.prim (.int kk' j)) := by rfl) (hq : i = (m : Int) := by rfl) (hq' : j = (m : Int) := by rfl) (hm : m ≤ 1099511627776 := by first | assumption | omega | (simp; omega)) (hby : by_ ≤ 128 := by decide) (hzs : zl.length = sz := by exact rfl) (hag : ag = true ∨ zl.length = 1 := by first | exact .inl rfl | exact .inr rfl) (hz : zAV zl ag = a := by exact rfl) (hd : dstOk dst nt = true := by rfl) : AOps ro P nt ops Q (⟨dst, .makeSlice t x y, ty, pos, after, none⟩ :: rest) ⟨T, S⟩ := by
  subst hz
  exact AOps.rs fun X => AOps.s (W.make hx hy .here hzs hag hq hq' (Nat.le_refl _) (Nat.le_trans (Nat.mul_le_mul hby hm) (by decide)) (Nat.le_trans hm (by decide))) hd (k X)
theorem AOps.g_make {st : St} (k : AOps ro P nt ops Q (⟨dst, .makeSlice t x y, ty, pos, after, g⟩ :: rest) st) : AOps ro P nt ops Q (⟨dst, .makeSlice t x y, ty, pos, after, g⟩ :: rest) st := k
end
end Go.Proofs.Ytcfleoaldoebhaa
