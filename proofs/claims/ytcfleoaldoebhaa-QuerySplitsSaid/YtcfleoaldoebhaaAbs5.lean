/-
  Operations over abstract values: those that only compute or read. No conditions.
-/
import Derived.Test.YtcfleoaldoebhaaAbs4
namespace Go.Proofs.Ytcfleoaldoebhaa
set_option linter.unusedVariables false
set_option linter.unusedSimpArgs false
open Go.RowKit

def tAgg (P : Program) (t : TypeId) : Option Bool := (P.underlying t).map fun d => match d with | .struct _ | .array _ _ => true | _ => false
def tSz (P : Program) (t : TypeId) : Option Nat := (P.info? t).map (·.size)

section
variable {P : Program} {o : Oper} {xs : List (Operand × AV)} {rS : List (Nat × Slot)} {v : AV}
theorem OpT.pure_ (h : ∀ (m : Mem) (a : Act), (∀ q ∈ xs, VV m q.2 (a.eval q.1) []) → (∀ q ∈ rS, ∃ bs, ORel m q.2.1 q.2.2 bs) → ∃ u, (execOp a.eval o).run P m.w = .ok (.value u) m.w ∧ VV m v u []) : OpT P o xs rS v [] := by
  intro nt m0 T S a w hx hS hd hr
  obtain ⟨m, N, Z, rfl, h2, h3, h4⟩ := hr
  obtain ⟨u, h5, h6⟩ := h m a (fun q hq => h4.ev (hx q hq)) fun q hq => by
    have := hS q hq
    rw [← show Z.map (·.1) = S from h2, List.getElem?_map] at this
    cases hz : Z[q.1]? with
    | none => rw [hz] at this; cases this
    | some z =>
      rw [hz] at this
      simp only [Option.map_some, Option.some.injEq] at this
      exact ⟨z.2, this ▸ h3.obj z (List.mem_of_getElem? hz)⟩
  unfold Oper.wp
  rw [h5]
  exact ⟨m, N, Z, rfl, h2, h3, h4.put hd h6⟩

theorem VV.prim {m : Mem} {u v : Value} {bs : List Nat} (h : VV m (.prim u) v bs) : v = u := by obtain ⟨⟨h, _⟩, _⟩ := h; injection h
theorem VV.prim1 {m : Mem} {u v : Value} {bs : List Nat} (h : VV m (.prim u) v bs) : u.oneCell' = true := h.1.2
theorem vv_prim {m : Mem} (u : Value) (h : u.oneCell' = true := by rfl) : VV m (.prim u) u [] := ⟨⟨rfl, h⟩, rfl⟩
variable {x y z : Operand} {t ty : TypeId} {pos : String} {after : Array Edge} {g : Option (Nat × Bool)} {dst : Option Tmp} {u u1 u2 : Value}

theorem OpT.move : OpT P ⟨dst, .move x, ty, pos, after, g⟩ [(x, v)] [] v [] :=
  .pure_ fun m a hx _ => ⟨a.eval x, rfl, hx (x, v) (by simp)⟩
theorem OpT.assign : OpT P ⟨dst, .assign x, ty, pos, after, g⟩ [(x, v)] [] v [] :=
  .pure_ fun m a hx _ => ⟨a.eval x, rfl, hx (x, v) (by simp)⟩
def bsel (b : Bool) (x y : AV) : AV := match b with
  | true => x
  | false => y
theorem OpT.pick {b : Bool} {va vb : AV} : OpT P ⟨dst, .pick x y z, ty, pos, after, g⟩ [(x, .prim (.bool b)), (y, va), (z, vb)] [] (bsel b va vb) [] :=
  .pure_ fun m a hx _ => by
    have h1 := (hx _ (List.mem_cons_self ..)).prim
    refine ⟨if b then a.eval y else a.eval z, ?_, ?_⟩
    · simp only at h1
      simp [execOp, h1, asBool, Sem.run_bind, Sem.run_pure, Result.andThen_ok]
    · cases b
      · exact hx (z, vb) (by simp)
      · exact hx (y, va) (by simp)
theorem OpT.pick_prim {b : Bool} : OpT P ⟨dst, .pick x y z, ty, pos, after, g⟩ [(x, .prim (.bool b)), (y, .prim u1), (z, .prim u2)] [] (.prim (if b then u1 else u2)) [] :=
  .pure_ fun m a hx _ => by
    have h1 := (hx _ (List.mem_cons_self ..)).prim
    have h2 := (hx (y, .prim u1) (by simp)).prim
    have h3 := (hx (z, .prim u2) (by simp)).prim
    have h4 := (hx (y, .prim u1) (by simp)).prim1
    have h5 := (hx (z, .prim u2) (by simp)).prim1
    refine ⟨if b then u1 else u2, ?_, vv_prim _ (by cases b <;> simp [h4, h5])⟩
    simp only at h1 h2 h3
    simp [execOp, h1, h2, h3, asBool, Sem.run_bind, Sem.run_pure, Result.andThen_ok]

/-! integers -/
theorem beq_dec {α : Type} [BEq α] [LawfulBEq α] [DecidableEq α] (a b : α) : (a == b) = decide (a = b) := by
  by_cases h : a = b <;> simp [h]
variable {k : IntKind} {i j : Int} {bop : BinOp} {ty2 : TypeId}
theorem run_binOp (ho : u.oneCell' = true) (h : ∀ w, (binOp bop t u1 u2).run P w = .ok u w) (hg : bop ≠ .eql ∧ bop ≠ .neq ∨ (∀ c, u1 ≠ .agg c) ∧ u1 ≠ .nilIface) : OpT P ⟨dst, .binOp bop t x y ty2, ty, pos, after, g⟩ [(x, .prim u1), (y, .prim u2)] [] (.prim u) [] :=
  .pure_ fun m a hx _ => by
    have h1 := (hx (x, .prim u1) (by simp)).prim
    have h2 := (hx (y, .prim u2) (by simp)).prim
    refine ⟨u, ?_, vv_prim _ ho⟩
    simp only at h1 h2
    have hq : ∀ w, (eqGuard bop t x y u1 u2).run P w = .ok () w := by
      intro w
      unfold eqGuard
      rcases hg with ⟨h3, h4⟩ | ⟨h3, h4⟩
      · cases bop <;> first | rfl | exact absurd rfl h3 | exact absurd rfl h4
      · cases u1 <;> first | exact absurd rfl (h3 _) | exact absurd rfl h4 | (cases bop <;> first | rfl | (cases u2 <;> rfl))
    simp [execOp, h1, h2, Sem.run_bind, Sem.run_pure, Result.andThen_ok, hq, h]
theorem OpT.int_arith_add : OpT P ⟨dst, .binOp .add t x y ty2, ty, pos, after, g⟩ [(x, .prim (.int k i)), (y, .prim (.int k j))] [] (.prim (.int k (k.wrap (i + j)))) [] :=
  run_binOp rfl (fun w => by simp [binOp, Op.intArith, Sem.run_pure]) (.inl ⟨by simp, by simp⟩)
theorem OpT.int_arith_sub : OpT P ⟨dst, .binOp .sub t x y ty2, ty, pos, after, g⟩ [(x, .prim (.int k i)), (y, .prim (.int k j))] [] (.prim (.int k (k.wrap (i - j)))) [] :=
  run_binOp rfl (fun w => by simp [binOp, Op.intArith, Sem.run_pure]) (.inl ⟨by simp, by simp⟩)
theorem OpT.int_arith_mul : OpT P ⟨dst, .binOp .mul t x y ty2, ty, pos, after, g⟩ [(x, .prim (.int k i)), (y, .prim (.int k j))] [] (.prim (.int k (k.wrap (i * j)))) [] :=
  run_binOp rfl (fun w => by simp [binOp, Op.intArith, Sem.run_pure]) (.inl ⟨by simp, by simp⟩)
theorem wrap_id (h1 : -9223372036854775808 ≤ i) (h2 : i ≤ 9223372036854775807) : IntKind.i64.wrap i = i := by
  have : IntKind.i64.wrap i = if (9223372036854775808 : Int) ≤ i % 18446744073709551616 then i % 18446744073709551616 - 18446744073709551616 else i % 18446744073709551616 := by
    simp [IntKind.wrap, IntKind.signed, IntKind.bits]
  rw [this]
  split <;> omega
theorem OpT.add (h1 : -9223372036854775808 ≤ i + j) (h2 : i + j ≤ 9223372036854775807) : OpT P ⟨dst, .binOp .add t x y ty2, ty, pos, after, g⟩ [(x, .prim (.int .i64 i)), (y, .prim (.int .i64 j))] [] (.prim (.int .i64 (i + j))) [] := by
  have := OpT.int_arith_add (P := P) (k := .i64) (i := i) (j := j) (x := x) (y := y) (t := t) (ty := ty) (ty2 := ty2) (pos := pos) (after := after) (g := g) (dst := dst)
  rwa [wrap_id h1 h2] at this
theorem OpT.sub (h1 : -9223372036854775808 ≤ i - j) (h2 : i - j ≤ 9223372036854775807) : OpT P ⟨dst, .binOp .sub t x y ty2, ty, pos, after, g⟩ [(x, .prim (.int .i64 i)), (y, .prim (.int .i64 j))] [] (.prim (.int .i64 (i - j))) [] := by
  have := OpT.int_arith_sub (P := P) (k := .i64) (i := i) (j := j) (x := x) (y := y) (t := t) (ty := ty) (ty2 := ty2) (pos := pos) (after := after) (g := g) (dst := dst)
  rwa [wrap_id h1 h2] at this
theorem OpT.mul (h1 : -9223372036854775808 ≤ i * j) (h2 : i * j ≤ 9223372036854775807) : OpT P ⟨dst, .binOp .mul t x y ty2, ty, pos, after, g⟩ [(x, .prim (.int .i64 i)), (y, .prim (.int .i64 j))] [] (.prim (.int .i64 (i * j))) [] := by
  have := OpT.int_arith_mul (P := P) (k := .i64) (i := i) (j := j) (x := x) (y := y) (t := t) (ty := ty) (ty2 := ty2) (pos := pos) (after := after) (g := g) (dst := dst)
  rwa [wrap_id h1 h2] at this
theorem OpT.rem (h : j ≠ 0) : OpT P ⟨dst, .binOp .rem t x y ty2, ty, pos, after, g⟩ [(x, .prim (.int k i)), (y, .prim (.int k j))] [] (.prim (.int k (i.tmod j))) [] :=
  run_binOp rfl (fun w => by simp [binOp, Op.intDiv, h, Sem.run_pure]) (.inl ⟨by simp, by simp⟩)
theorem OpT.quo (h : j ≠ 0) : OpT P ⟨dst, .binOp .quo t x y ty2, ty, pos, after, g⟩ [(x, .prim (.int k i)), (y, .prim (.int k j))] [] (.prim (.int k (k.wrap (i.tdiv j)))) [] :=
  run_binOp rfl (fun w => by simp [binOp, Op.intDiv, h, Sem.run_pure]) (.inl ⟨by simp, by simp⟩)
theorem OpT.lss : OpT P ⟨dst, .binOp .lss t x y ty2, ty, pos, after, g⟩ [(x, .prim (.int k i)), (y, .prim (.int k j))] [] (.prim (.bool (decide (i < j)))) [] :=
  run_binOp rfl (fun w => by simp [binOp, Op.intCmp, Sem.run_pure]) (.inl ⟨by simp, by simp⟩)
theorem OpT.leq : OpT P ⟨dst, .binOp .leq t x y ty2, ty, pos, after, g⟩ [(x, .prim (.int k i)), (y, .prim (.int k j))] [] (.prim (.bool (decide (i ≤ j)))) [] :=
  run_binOp rfl (fun w => by simp [binOp, Op.intCmp, Sem.run_pure]) (.inl ⟨by simp, by simp⟩)
theorem OpT.gtr : OpT P ⟨dst, .binOp .gtr t x y ty2, ty, pos, after, g⟩ [(x, .prim (.int k i)), (y, .prim (.int k j))] [] (.prim (.bool (decide (j < i)))) [] :=
  run_binOp rfl (fun w => by simp [binOp, Op.intCmp, Sem.run_pure]) (.inl ⟨by simp, by simp⟩)
theorem OpT.geq : OpT P ⟨dst, .binOp .geq t x y ty2, ty, pos, after, g⟩ [(x, .prim (.int k i)), (y, .prim (.int k j))] [] (.prim (.bool (decide (j ≤ i)))) [] :=
  run_binOp rfl (fun w => by simp [binOp, Op.intCmp, Sem.run_pure]) (.inl ⟨by simp, by simp⟩)
theorem OpT.eql_int : OpT P ⟨dst, .binOp .eql t x y ty2, ty, pos, after, g⟩ [(x, .prim (.int k i)), (y, .prim (.int k j))] [] (.prim (.bool (decide (i = j)))) [] :=
  run_binOp rfl (fun w => by simp [binOp, Op.intCmp, Sem.run_pure, beq_dec]) (.inr ⟨by simp, by simp⟩)
theorem OpT.neq_int : OpT P ⟨dst, .binOp .neq t x y ty2, ty, pos, after, g⟩ [(x, .prim (.int k i)), (y, .prim (.int k j))] [] (.prim (.bool (decide (i ≠ j)))) [] :=
  run_binOp rfl (fun w => by simp [binOp, Op.intCmp, Sem.run_pure, bne, beq_dec]) (.inr ⟨by simp, by simp⟩)
theorem toList_mk (l : List UInt8) : (⟨l.toArray⟩ : ByteArray).toList = l := by
  rw [ByteArray.toList_eq]
def strA (l : List UInt8) : Value := .string ⟨l.toArray⟩
theorem OpT.eql_str {a b : List UInt8} : OpT P ⟨dst, .binOp .eql t x y ty2, ty, pos, after, g⟩ [(x, .prim (strA a)), (y, .prim (strA b))] [] (.prim (.bool (decide (a = b)))) [] :=
  run_binOp rfl (fun w => by simp [binOp, Op.stringOp, Sem.run_pure, strA, toList_mk, beq_dec]) (.inr ⟨by simp [strA], by simp [strA]⟩)
theorem OpT.neq_str {a b : List UInt8} : OpT P ⟨dst, .binOp .neq t x y ty2, ty, pos, after, g⟩ [(x, .prim (strA a)), (y, .prim (strA b))] [] (.prim (.bool (decide (a ≠ b)))) [] :=
  run_binOp rfl (fun w => by simp [binOp, Op.stringOp, Sem.run_pure, strA, toList_mk, bne, beq_dec]) (.inr ⟨by simp [strA], by simp [strA]⟩)
theorem OpT.not {b : Bool} : OpT P ⟨dst, .unOp .not t x, ty, pos, after, g⟩ [(x, .prim (.bool b))] [] (.prim (.bool !b)) [] :=
  .pure_ fun m a hx _ => by
    have h1 := (hx _ (List.mem_cons_self ..)).prim
    simp only at h1
    exact ⟨_, by simp [execOp, h1, Op.unary, Sem.run_bind, Sem.run_pure, Result.andThen_ok], vv_prim _⟩
theorem OpT.neg : OpT P ⟨dst, .unOp .neg t x, ty, pos, after, g⟩ [(x, .prim (.int k i))] [] (.prim (.int k (k.wrap (-i)))) [] :=
  .pure_ fun m a hx _ => by
    have h1 := (hx _ (List.mem_cons_self ..)).prim
    simp only at h1
    exact ⟨_, by simp [execOp, h1, Op.unary, Op.intArith, Sem.run_bind, Sem.run_pure, Result.andThen_ok], vv_prim _⟩
theorem OpT.extract {l : List AV} {n : Nat} (h : l[n]? = some v) : OpT P ⟨dst, .extract x n, ty, pos, after, g⟩ [(x, .tup l)] [] v [] :=
  .pure_ fun m a hx _ => by
    have hv : ∀ (l : List AV) (vs : List Value) (n : Nat) v, VTs m l vs [] → l[n]? = some v → ∃ u, vs[n]? = some u ∧ VV m v u [] := by
      intro l
      induction l with
      | nil => intro vs n v _ h; simp at h
      | cons b l ih =>
        intro vs n v hv h
        obtain ⟨u, vs', b1, b2, rfl, e, h1, h2⟩ := (VTs_cons hv.ntup).1 hv
        obtain ⟨rfl, rfl⟩ : b1 = [] ∧ b2 = [] := by simpa using e.symm
        cases n with
        | zero => simp at h; subst h; exact ⟨u, rfl, h1⟩
        | succ n => exact ih vs' n v h2 (by simpa using h)
    obtain ⟨vs, e, hvs⟩ := hx _ (List.mem_cons_self ..)
    simp only at e
    obtain ⟨u, h1, h2⟩ := hv l _ n v hvs h
    have h1' : vs[n]? = some u := by simpa using h1
    exact ⟨u, by simp [execOp, e, Instr.extract, h1', Sem.run_bind, Sem.run_pure, Result.andThen_ok], h2⟩
end
end Go.Proofs.Ytcfleoaldoebhaa
