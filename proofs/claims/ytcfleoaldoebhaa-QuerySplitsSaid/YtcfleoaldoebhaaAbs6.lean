/-
  Operations over abstract values: addresses, loads, lengths, fields. No conditions.
-/
import Derived.Test.YtcfleoaldoebhaaAbs5
import Derived.Laws.Rows
import Derived.Laws.CopyRow
import Derived.Deep.MidRow
namespace Go.Proofs.Ytcfleoaldoebhaa
set_option linter.unusedVariables false
set_option linter.unusedSimpArgs false
open Go.RowKit

def AV.cells : AV → List AV
  | .agg cs => cs
  | a => [a]
def flat : List AV → Bool
  | [] => true
  | a :: l => Nat.beq a.width 1 && flat l
mutual
def AV.noOwn : AV → Bool
  | .agg cs | .tup cs | .fn _ cs => noOwns cs
  | .lst o _ _ _ => !o
  | .bx .. => false
  | .opt _ _ => true
  | _ => true
def noOwns : List AV → Bool
  | [] => true
  | a :: l => a.noOwn && noOwns l
end
/-- A value that may be laid in memory. -/
def AV.stor : AV → Bool
  | .dead | .tup _ | .opt .. => false
  | _ => true
/-- A value of one cell. -/
def AV.st1 : AV → Bool
  | .dead | .agg _ | .tup _ | .opt .. => false
  | _ => true
def st1s : List AV → Bool
  | [] => true
  | a :: l => a.st1 && st1s l
def oneOf : AV → Option AV
  | .agg _ => none
  | a => some a
def headOf : List AV → Option AV
  | [] => none
  | a :: _ => oneOf a
/-- The n cells from cell k on, of a value. -/
def partOf (cs : List AV) (k n : Nat) (ag : Bool) : Option AV :=
  match flat cs && Nat.ble (k + n) cs.length && noOwns ((cs.drop k).take n) with
  | false => none
  | true => match ag with
    | true => some (.agg ((cs.drop k).take n))
    | false => match Nat.beq n 1 with
      | true => headOf (cs.drop k)
      | false => none

theorem flat_spec {cs : List AV} (h : flat cs = true) : ∀ e ∈ cs, e.width = 1 := by
  induction cs with
  | nil => intro e he; cases he
  | cons a l ih =>
    simp only [flat, Bool.and_eq_true] at h
    intro e he
    rcases List.mem_cons.1 he with rfl | he
    · exact Nat.eq_of_beq_eq_true h.1
    · exact ih h.2 e he
mutual
theorem VC.noOwn {m : Mem} : (a : AV) → {c : List Value} → {bs : List Nat} → a.noOwn = true → VC m a c bs → bs = []
  | .prim _, _, _, _, k => k.2
  | .dead, _, _, _, k => k.2
  | .agg cs, _, _, h, k => VCs.noOwn cs h k
  | .tup cs, _, _, h, k => k.elim
  | .opt _ _, _, _, h, k => k.elim
  | .lst false .., _, _, _, k => k.1
  | .lst true .., _, _, h, _ => by simp [AV.noOwn] at h
  | .bx .., _, _, h, _ => by simp [AV.noOwn] at h
  | .sl .., _, _, _, k => k.1
  | .ptr .., _, _, _, k => k.1
  | .fp _, _, _, _, k => k.1
  | .fn f cap, _, _, h, ⟨_, _, k⟩ => VCs.noOwn cap h k
  | .mp _, _, _, _, k => k.1
theorem VCs.noOwn {m : Mem} : (as : List AV) → {c : List Value} → {bs : List Nat} → noOwns as = true → VCs m as c bs → bs = []
  | [], _, _, _, k => k.2
  | a :: as, _, _, h, ⟨c1, c2, b1, b2, e1, e2, k1, k2⟩ => by
    simp only [noOwns, Bool.and_eq_true] at h
    rw [e2, VC.noOwn a h.1 k1, VCs.noOwn as h.2 k2]; rfl
theorem VTs.noOwn {m : Mem} : (as : List AV) → {c : List Value} → {bs : List Nat} → noOwns as = true → VTs m as c bs → bs = []
  | [], _, _, _, k => k.2
  | .agg cs :: as, _, _, h, ⟨c1, c2, b1, b2, e1, e2, k1, k2⟩ => by
    simp only [noOwns, AV.noOwn, Bool.and_eq_true] at h
    rw [e2, VCs.noOwn cs h.1 k1, VTs.noOwn as h.2 k2]; rfl
  | .prim u :: as, _, _, h, ⟨v, vs, b1, b2, e1, e2, k1, k2⟩ => by
    simp only [noOwns, Bool.and_eq_true] at h
    rw [e2, k1.2, VTs.noOwn as h.2 k2]; rfl
  | .dead :: as, _, _, h, ⟨v, vs, b1, b2, e1, e2, k1, k2⟩ => by
    simp only [noOwns, Bool.and_eq_true] at h
    rw [e2, k1, VTs.noOwn as h.2 k2]; rfl
  | .tup cs :: as, _, _, h, ⟨v, vs, b1, b2, e1, e2, k1, k2⟩ => by
    simp only [noOwns, Bool.and_eq_true] at h
    exact k1.elim
  | .lst o t s l :: as, _, _, h, ⟨v, vs, b1, b2, e1, e2, k1, k2⟩ => by
    simp only [noOwns, Bool.and_eq_true] at h
    rw [e2, VC.noOwn (.lst o t s l) h.1 k1, VTs.noOwn as h.2 k2]; rfl
  | .bx t a :: as, _, _, h, ⟨v, vs, b1, b2, e1, e2, k1, k2⟩ => by simp [noOwns, AV.noOwn] at h
  | .sl x i j :: as, _, _, h, ⟨v, vs, b1, b2, e1, e2, k1, k2⟩ => by
    simp only [noOwns, Bool.and_eq_true] at h
    rw [e2, k1.1, VTs.noOwn as h.2 k2]; rfl
  | .ptr x i j :: as, _, _, h, ⟨v, vs, b1, b2, e1, e2, k1, k2⟩ => by
    simp only [noOwns, Bool.and_eq_true] at h
    rw [e2, k1.1, VTs.noOwn as h.2 k2]; rfl
  | .fp cs :: as, _, _, h, ⟨v, vs, b1, b2, e1, e2, k1, k2⟩ => by
    simp only [noOwns, Bool.and_eq_true] at h
    rw [e2, k1.1, VTs.noOwn as h.2 k2]; rfl
  | .fn f cap :: as, _, _, h, ⟨v, vs, b1, b2, e1, e2, k1, k2⟩ => by
    simp only [noOwns, Bool.and_eq_true] at h
    rw [e2, VC.noOwn (.fn f cap) h.1 k1, VTs.noOwn as h.2 k2]; rfl
  | .mp x :: as, _, _, h, ⟨v, vs, b1, b2, e1, e2, k1, k2⟩ => by
    simp only [noOwns, Bool.and_eq_true] at h
    rw [e2, k1.1, VTs.noOwn as h.2 k2]; rfl
  | .opt c b :: as, _, _, h, ⟨v, vs, b1, b2, e1, e2, k1, k2⟩ => k1.elim
end
section
variable {P : Program} {m : Mem}
theorem VC.cells {a : AV} {c : List Value} {bs : List Nat} (h : VC m a c bs) : VCs m a.cells c bs := by
  cases a
  case agg cs => exact h
  all_goals exact VCs.one.2 h
theorem VCs.cells {cs : List AV} {c : List Value} {bs : List Nat} (h : VCs m cs c bs) : VC m (.agg cs) c bs := h
theorem VV.vc {a : AV} {u : Value} {bs : List Nat} (h : VV m a u bs) (hs : a.stor = true) : VC m a u.cells.toList bs := by
  cases a
  case agg cs => obtain ⟨cells, rfl, h⟩ := h; exact h
  case dead => simp [AV.stor] at hs
  case tup cs => simp [AV.stor] at hs
  case opt c b => simp [AV.stor] at hs
  all_goals
    have h : VC m _ [u] bs := h
    have h1 := VC.ones _ h u (by simp)
    have : u.cells = #[u] := by cases u <;> first | rfl | simp [Value.oneCell'] at h1
    rw [this]
    exact h
theorem VV.cells {a : AV} {u : Value} {bs : List Nat} (h : VV m a u bs) (hs : a.stor = true) : VCs m a.cells u.cells.toList bs ∧ ∀ c ∈ u.cells.toList, c.oneCell' = true :=
  ⟨(h.vc hs).cells, VC.ones _ (h.vc hs)⟩
theorem partOf_spec {cs : List AV} {k n : Nat} {ag : Bool} {v : AV} (h : partOf cs k n ag = some v) {c : List Value} {bs : List Nat} (hc : VCs m cs c bs) :
    k + n ≤ c.length ∧ ∃ u, VV m v u [] ∧ ((ag = true ∧ u = .agg ((c.drop k).take n).toArray) ∨ (ag = false ∧ n = 1 ∧ c[k]? = some u)) := by
  unfold partOf at h
  split at h
  · cases h
  · rename_i hb
    simp only [Bool.and_eq_true] at hb
    obtain ⟨⟨h1, h2⟩, h3⟩ := hb
    have hw := flat_spec h1
    have hk : k + n ≤ cs.length := Nat.le_of_ble_eq_true h2
    have hcl : c.length = cs.length := by rw [VCs.len _ hc, widths_of (sz := 1) hw]; omega
    obtain ⟨p1, p2, rfl, _, hd⟩ := VCs.take (sz := 1) hw hc (k := k) (by omega)
    have hw' : ∀ e ∈ cs.drop k, e.width = 1 := fun e he => hw e (List.mem_of_mem_drop he)
    obtain ⟨q1, q2, rfl, ht, _⟩ := VCs.take (sz := 1) hw' hd (k := n) (by rw [List.length_drop]; omega)
    simp only [Nat.mul_one] at ht hd
    have e0 := VCs.noOwn _ h3 ht
    subst e0
    refine ⟨by omega, ?_⟩
    split at h
    · injection h with h
      subst h
      exact ⟨_, ⟨_, rfl, ht⟩, .inl ⟨rfl, rfl⟩⟩
    · split at h
      · rename_i hn1
        have hn1 := Nat.eq_of_beq_eq_true hn1
        subst hn1
        cases hcs : cs.drop k with
        | nil => rw [hcs] at h; cases h
        | cons a l =>
          rw [hcs] at h ht
          rw [show (a :: l).take 1 = [a] from rfl, VCs.one] at ht
          have hl := VC.len _ ht
          rw [hw' a (by rw [hcs]; simp)] at hl
          obtain ⟨u, hu⟩ : ∃ u, (c.drop k).take 1 = [u] := List.length_eq_one_iff.1 hl
          rw [hu] at ht
          have hv : a = v ∧ VV m a u [] := by
            cases a
            case agg cs => cases h
            case dead => exact ⟨by injection h, rfl⟩
            case tup cs => exact ht.elim
            case opt c b => exact ht.elim
            all_goals exact ⟨by injection h, ht⟩
          refine ⟨u, hv.1 ▸ hv.2, .inr ⟨rfl, rfl, ?_⟩⟩
          have := congrArg (fun l : List Value => l[0]?) hu
          simpa [List.getElem?_take, List.getElem?_drop] using this
      · cases h

theorem run_load (w : World) (ty : TypeId) {b off : Nat} {arr : Array Value} {t : TypeId} {r : Nat × Nat} (hb : w.heap[b]? = some (.cells arr t r)) {c : List Value} (hc : ∀ j u, c[j]? = some u → arr[off + j]? = some u) {ag : Bool} {n : Nat} (hA : tAgg P ty = some ag) (hn : tSz P ty = some n) {u : Value}
    (hu : (ag = true ∧ n ≤ c.length ∧ u = .agg (c.take n).toArray) ∨ (ag = false ∧ c[0]? = some u)) : (Instr.loadAt ty (.pointer (some ⟨b, off, none⟩))).run P w = .ok u w := by
  have hcell : ∀ j u, c[j]? = some u → w.cell? ⟨b, off + j, none⟩ = some u := fun j u hj => by simp [World.cell?, hb, hc j u hj]
  unfold tAgg at hA
  unfold tSz at hn
  cases hd : P.underlying ty with
  | none => rw [hd] at hA; cases hA
  | some d =>
    rw [hd] at hA
    simp only [Option.map_some, Option.some.injEq] at hA
    rcases hu with ⟨rfl, hle, rfl⟩ | ⟨rfl, h0⟩
    · refine run_loadAt_mid w b off ty (c.take n) d (fun j u hj => ?_) hd ?_ ?_
      · rw [List.getElem?_take] at hj
        split at hj
        · exact hcell j u hj
        · cases hj
      · cases d <;> first | rfl | cases hA
      · rw [hn, List.length_take, Nat.min_eq_left hle]
    · have hagg : (isAgg ty).run P w = .ok false w := by
        unfold isAgg
        rw [Sem.run_bind, run_underlying hd w]
        cases d <;> first | rfl | cases hA
      have hcl := hcell 0 u h0
      simp only [Nat.add_zero] at hcl
      simp [Instr.loadAt, Instr.sureAddr, loadVar, Sem.run_bind, Sem.run_pure, Result.andThen_ok, hagg, load, Sem.run, hcl]

variable {o : Oper} {v : AV} {x y z : Operand} {t ty ty2 : TypeId} {pos : String} {after : Array Edge} {g : Option (Nat × Bool)} {dst : Option Tmp}
theorem pt_add (b o j : Nat) : (⟨b, o, none⟩ : Addr).add j = ⟨b, o + j, none⟩ := by unfold Addr.add; split <;> simp_all
theorem OpT.load_fp {cs : List AV} {ag : Bool} {n : Nat} (hA : tAgg P t = some ag) (hn : tSz P t = some n) (hp : partOf cs 0 n ag = some v) : OpT P ⟨dst, .load t x, ty, pos, after, g⟩ [(x, .fp cs)] [] v [] :=
  .pure_ fun m a hx _ => by
    obtain ⟨_, b, off, arr, t', r, e, hF, hb, hc⟩ := hx (x, .fp cs) (by simp)
    injection e with e
    simp only at e
    obtain ⟨h1, u, h2, h3⟩ := partOf_spec hp hc
    refine ⟨u, ?_, h2⟩
    have := run_load (P := P) m.w t hb (c := (arr.toList.drop off).take (AV.widths cs)) (fun j u hj => by
      rw [List.getElem?_take] at hj
      split at hj
      · simpa [List.getElem?_drop] using hj
      · cases hj) hA hn (u := u) (by
      rcases h3 with ⟨h3, h4⟩ | ⟨h3, h4, h5⟩
      · exact .inl ⟨h3, by omega, by simpa using h4⟩
      · exact .inr ⟨h3, h5⟩)
    simp [execOp, e, Sem.run_bind, this, Sem.run_pure, Result.andThen_ok]
/-- The cells of one element of a row. -/
theorem ORel.elem {X sz i : Nat} {l : List AV} {bs : List Nat} (h : ORel m X (.row t sz l) bs) {e : AV} (hi : l[i]? = some e) : ∃ L arr c p, m.μ X = some L ∧ L.sz = sz ∧ L.isNil = false ∧ i < L.cap ∧ m.w.heap[L.blk]? = some (.cells arr t (0, 0)) ∧ VC m e c p ∧ c.length = sz ∧
    ∀ j u, c[j]? = some u → arr[i * sz + j]? = some u := by
  obtain ⟨hu, L, h1, h2, h3⟩ := h
  have hil : i < l.length := (List.getElem?_eq_some_iff.1 hi).1
  rcases h3 with ⟨_, rfl, _⟩ | ⟨h3, arr, bs', e1, e2, e3, e4, e5, e6, e7⟩
  · simp at hi
  · obtain ⟨c1, c2, c3, p1, p2, p3, hc, hp, hl1, hl2, _, hv, _⟩ := e7.get e6 hil
    have he : l[i] = e := (List.getElem?_eq_some_iff.1 hi).2
    rw [he] at hv
    refine ⟨L, arr, c2, p2, h1, h2, h3, by omega, e2, hv, hl2, fun j u hj => ?_⟩
    have hjl : j < c2.length := (List.getElem?_eq_some_iff.1 hj).1
    have h4 : (arr.toList.take (l.length * sz))[i * sz + j]? = some u := by
      rw [hc, List.append_assoc, List.getElem?_append_right (by omega), hl1, Nat.add_sub_cancel_left, List.getElem?_append_left hjl, hj]
    rw [List.getElem?_take] at h4
    split at h4
    · simpa using h4
    · cases h4
theorem OpT.load {p X sz i k n : Nat} {l : List AV} {e : AV} {ag : Bool} (hA : tAgg P t = some ag) (hn : tSz P t = some n) (hi : l[i]? = some e) (hp : partOf e.cells k n ag = some v) : OpT P ⟨dst, .load t x, ty, pos, after, g⟩ [(x, .ptr X i k)] [(p, (X, .row ty2 sz l))] v [] :=
  .pure_ fun m a hx hS => by
    obtain ⟨bs, hO⟩ := hS (p, (X, .row ty2 sz l)) (by simp)
    obtain ⟨L, arr, c, q, h1, h2, _, _, hb, hv, hcl, hc⟩ := hO.elem hi
    obtain ⟨_, _, A, e1, h3⟩ := hx (x, .ptr X i k) (by simp)
    injection e1 with e1
    simp only at e1
    rw [h3 L h1, h2] at e1
    obtain ⟨h4, u, h5, h6⟩ := partOf_spec hp hv.cells
    refine ⟨u, ?_, h5⟩
    have := run_load (P := P) m.w t hb (off := i * sz + k) (c := c.drop k) (fun j u hj => by
      rw [Nat.add_assoc]
      exact hc _ _ (by simpa [List.getElem?_drop] using hj)) hA hn (u := u) (by
      rcases h6 with ⟨h6, h7⟩ | ⟨h6, h7, h8⟩
      · exact .inl ⟨h6, by rw [List.length_drop]; omega, h7⟩
      · exact .inr ⟨h6, by simpa [List.getElem?_drop] using h8⟩)
    simp [execOp, e1, Sem.run_bind, this, Sem.run_pure, Result.andThen_ok]

/-! ### fields, elements -/
def tFld (P : Program) (s : TypeId) (f : Nat) : Option (Nat × TypeId) := match P.underlying s with
  | some (.struct fs) => (fs[f]?).map fun f => (f.offset, f.type)
  | _ => none
def tElem (P : Program) (t : TypeId) : Option TypeId := match P.underlying t with
  | some (.slice e) => some e
  | _ => none
theorem tFld_spec {s : TypeId} {f off : Nat} {ft : TypeId} (h : tFld P s f = some (off, ft)) : ∃ fs, P.underlying s = some (.struct fs) ∧ ∃ fi : Go.Field, fs[f]? = some fi ∧ fi.offset = off ∧ fi.type = ft := by
  unfold tFld at h
  split at h
  · rename_i fs hs
    cases hf : fs[f]? with
    | none => rw [hf] at h; cases h
    | some fi =>
      rw [hf] at h
      simp only [Option.map_some, Option.some.injEq, Prod.mk.injEq] at h
      exact ⟨fs, hs, fi, hf, h.1, h.2⟩
  · cases h
theorem tElem_spec {t e : TypeId} (h : tElem P t = some e) : P.underlying t = some (.slice e) := by
  unfold tElem at h
  split at h
  · rename_i e' he; injection h with h; subst h; exact he
  · cases h
theorem run_sizeOf {t : TypeId} {n : Nat} (h : tSz P t = some n) (w : World) : (sizeOf t).run P w = .ok n w := by
  unfold tSz at h
  cases hi : P.info? t with
  | none => rw [hi] at h; cases h
  | some i =>
    rw [hi] at h
    simp only [Option.map_some, Option.some.injEq] at h
    simp [sizeOf, typeInfo, hi, h, Sem.run_bind, Sem.run_pure, Result.andThen_ok]
theorem run_isAgg {t : TypeId} {b : Bool} (h : tAgg P t = some b) (w : World) : (isAgg t).run P w = .ok b w := by
  unfold tAgg at h
  cases hd : P.underlying t with
  | none => rw [hd] at h; cases h
  | some d =>
    rw [hd] at h
    simp only [Option.map_some, Option.some.injEq] at h
    unfold isAgg
    rw [Sem.run_bind, run_underlying hd w]
    subst h
    cases d <;> rfl
theorem run_fieldAt {s : TypeId} {f off n : Nat} {ft : TypeId} (h : tFld P s f = some (off, ft)) (hn : tSz P ft = some (n + 1)) (b o : Nat) (w : World) : (Instr.fieldAt s (.pointer (some ⟨b, o, none⟩)) f).run P w = .ok (.pointer (some ⟨b, o + off, none⟩)) w := by
  obtain ⟨fs, h1, fi, h2, rfl, rfl⟩ := tFld_spec h
  simp [Instr.fieldAt, run_underlying h1, h2, Instr.sureAddr, fieldPlace, run_sizeOf hn, Sem.run_bind, Sem.run_pure, Result.andThen_ok, pt_add]
theorem OpT.fieldAddr {X i k f off n : Nat} {ft : TypeId} {p sz : Nat} {l : List AV} {t' : TypeId} (h : tFld P t f = some (off, ft)) (hn : tSz P ft = some (n + 1)) (hi : i < l.length) : OpT P ⟨dst, .fieldAddr t x f, ty, pos, after, g⟩ [(x, .ptr X i k)] [(p, (X, .row t' sz l))] (.ptr X i (k + off)) [] :=
  .pure_ fun m a hx hS => by
    obtain ⟨bs, hO⟩ := hS (p, (X, .row t' sz l)) (by simp)
    obtain ⟨L, arr, c, q, h1, h2, _⟩ := hO.elem (List.getElem?_eq_getElem hi)
    obtain ⟨_, hU, A, e1, h3⟩ := hx (x, .ptr X i k) (by simp)
    injection e1 with e1
    simp only at e1
    rw [h3 L h1] at e1
    refine ⟨.pointer (some ⟨L.blk, i * L.sz + (k + off), none⟩), ?_, rfl, hU, _, rfl, fun L' hL' => ?_⟩
    · simp [execOp, e1, Sem.run_bind, run_fieldAt h hn, Sem.run_pure, Result.andThen_ok, Nat.add_assoc]
    · rw [h1] at hL'; injection hL' with hL'; subst hL'; rfl
theorem fp_drop {cs : List AV} {c : List Value} {bs : List Nat} (hf : flat cs = true) (k : Nat) (h : VCs m cs c bs) (hb : bs = []) : VCs m (cs.drop k) (c.drop k) [] ∧ AV.widths (cs.drop k) = (cs.drop k).length ∧ AV.widths cs = cs.length := by
  subst hb
  have hw := flat_spec hf
  have e1 : AV.widths cs = cs.length := by rw [widths_of (sz := 1) hw]; omega
  have e2 : AV.widths (cs.drop k) = (cs.drop k).length := by rw [widths_of (sz := 1) fun e he => hw e (List.mem_of_mem_drop he)]; omega
  refine ⟨?_, e2, e1⟩
  rcases Nat.lt_or_ge cs.length k with hk | hk
  · have hl := VCs.len _ h
    rw [List.drop_of_length_le (by omega), List.drop_of_length_le (by omega)]
    exact VCs.nil
  · obtain ⟨p1, p2, e, _, hd⟩ := VCs.take (sz := 1) hw h hk
    obtain ⟨rfl, rfl⟩ : p1 = [] ∧ p2 = [] := by simpa using e.symm
    simpa using hd
theorem OpT.fieldAddr_fp {cs : List AV} {f off n : Nat} {ft : TypeId} (h : tFld P t f = some (off, ft)) (hn : tSz P ft = some (n + 1)) (hf : flat cs = true) : OpT P ⟨dst, .fieldAddr t x f, ty, pos, after, g⟩ [(x, .fp cs)] [] (.fp (cs.drop off)) [] :=
  .pure_ fun m a hx _ => by
    obtain ⟨_, b, o, arr, t', r, e, hF, hb, hc⟩ := hx (x, .fp cs) (by simp)
    injection e with e
    simp only at e
    obtain ⟨h1, h2, h3⟩ := fp_drop hf off hc rfl
    refine ⟨.pointer (some ⟨b, o + off, none⟩), ?_, rfl, b, o + off, arr, t', r, rfl, hF, hb, ?_⟩
    · simp [execOp, e, Sem.run_bind, run_fieldAt h hn, Sem.run_pure, Result.andThen_ok]
    · rw [h3] at h1
      rw [h2]
      have : (arr.toList.drop (o + off)).take (cs.drop off).length = ((arr.toList.drop o).take cs.length).drop off := by
        rw [List.drop_take, List.drop_drop, List.length_drop]
      rw [this]
      exact h1
theorem OpT.field {cs : List AV} {f off n : Nat} {ag : Bool} {ft : TypeId} (h : tFld P t f = some (off, ft)) (hA : tAgg P ft = some ag) (hn : tSz P ft = some n) (hp : partOf cs off n ag = some v) : OpT P ⟨dst, .field t x f, ty, pos, after, g⟩ [(x, .agg cs)] [] v [] :=
  .pure_ fun m a hx _ => by
    obtain ⟨cells, e, hc⟩ := hx (x, .agg cs) (by simp)
    simp only at e
    obtain ⟨fs, h1, fi, h2, rfl, rfl⟩ := tFld_spec h
    obtain ⟨h4, u, h5, h6⟩ := partOf_spec hp hc
    refine ⟨u, ?_, h5⟩
    have : ∀ w, (part fi.type cells fi.offset).run P w = .ok u w := by
      intro w
      rcases h6 with ⟨rfl, rfl⟩ | ⟨rfl, rfl, h7⟩
      · simp only [part, Sem.run_bind, run_isAgg hA, run_sizeOf hn, Result.andThen_ok, if_true, Sem.run_pure]
        congr 2
        apply Array.ext'
        simp [List.drop_take]
      · have h7' : cells[fi.offset]? = some u := by simpa using h7
        simp [part, Sem.run_bind, run_isAgg hA, Result.andThen_ok, h7', Sem.run_pure]
    simp [execOp, e, Instr.field, run_underlying h1, h2, asAgg, Sem.run_bind, this, Sem.run_pure, Result.andThen_ok]
theorem OpT.indexAddr {k : IntKind} {X off len i j : Nat} {q : Int} {p sz : Nat} {l : List AV} {t' te : TypeId} (h : tElem P t = some te) (hn : tSz P te = some sz) (hq : q = (i : Int)) (hi : i < len) (hj : off + i = j) : OpT P ⟨dst, .indexAddr t x y, ty, pos, after, g⟩ [(x, .sl X off len), (y, .prim (.int k q))] [(p, (X, .row t' sz l))] (.ptr X j 0) [] :=
  .pure_ fun m a hx hS => by
    obtain ⟨bs, hU, L, h1, h2, _⟩ := hS (p, (X, .row t' sz l)) (by simp)
    obtain ⟨_, hU', A, c, e1, h3⟩ := hx (x, .sl X off len) (by simp)
    have hy := (hx (y, .prim (.int k q)) (by simp)).prim
    injection e1 with e1
    simp only at e1 hy
    subst hq hj
    rcases h3 L h1 with ⟨_, _, _, e⟩ | ⟨_, h4, o, e, h5⟩
    · omega
    · injection e with e2 e3 e4
      have ho := h5 (.inl (by omega))
      refine ⟨.pointer (some ⟨L.blk, (off + i) * L.sz + 0, none⟩), ?_, rfl, hU, _, rfl, fun L' hL' => ?_⟩
      · have hlt : (0 : Int) ≤ (i : Int) ∧ (i : Int) < (len : Int) := by omega
        simp only [h2] at *
        simp [execOp, e1, hy, Instr.indexAt, asIntOf, run_underlying (tElem_spec h), e2, hlt, run_sizeOf hn, Sem.run_bind, Sem.run_pure, Result.andThen_ok, pt_add, ho, Nat.add_mul, hi]
      · rw [h1] at hL'; injection hL' with hL'; subst hL'; rfl
theorem OpT.indexAddr_lst {k : IntKind} {i : Nat} {q : Int} {sz : Nat} {l : List AV} {t' te : TypeId} {e : AV} (h : tElem P t = some te) (hn : tSz P te = some sz) (hq : q = (i : Int)) (hi : l[i]? = some e) : OpT P ⟨dst, .indexAddr t x y, ty, pos, after, g⟩ [(x, .lst false t' sz l), (y, .prim (.int k q))] [] (.fp e.cells) [] :=
  .pure_ fun m a hx _ => by
    have hil : i < l.length := (List.getElem?_eq_some_iff.1 hi).1
    have he : l[i] = e := (List.getElem?_eq_some_iff.1 hi).2
    obtain ⟨_, A, cap, e1, h3, hw, h4⟩ := hx (x, .lst false t' sz l) (by simp)
    obtain ⟨b, off, arr, tt, r, rfl, hF, hb, hc⟩ := h4 (by omega)
    have hy := (hx (y, .prim (.int k q)) (by simp)).prim
    injection e1 with e1
    simp only at e1 hy
    subst hq
    obtain ⟨c1, c2, c3, p1, p2, p3, hcc, hp, hl1, hl2, _, hv, _⟩ := hc.get hw hil
    rw [he] at hv
    have e0 : p2 = [] := by
      have := hp.symm
      simp at this
      exact this.2.1
    subst e0
    refine ⟨.pointer (some ⟨b, off + i * sz, none⟩), ?_, rfl, b, off + i * sz, arr, tt, r, rfl, hF, hb, ?_⟩
    · have hlt : (0 : Int) ≤ (i : Int) ∧ (i : Int) < (l.length : Int) := by omega
      simp [execOp, e1, hy, Instr.indexAt, asIntOf, run_underlying (tElem_spec h), hlt, run_sizeOf hn, Sem.run_bind, Sem.run_pure, Result.andThen_ok, pt_add, hil]
    · have hwc : AV.widths e.cells = sz := by
        rw [← VCs.len _ hv.cells, hl2]
      have : (arr.toList.drop (off + i * sz)).take (AV.widths e.cells) = c2 := by
        have h5 : ((arr.toList.drop off).take (l.length * sz)).drop (i * sz) = c2 ++ c3 := by
          rw [hcc, List.append_assoc, List.drop_left' hl1]
        rw [List.drop_take, List.drop_drop] at h5
        have h6 : ((arr.toList.drop (off + i * sz)).take (l.length * sz - i * sz)).take sz = c2 := by rw [h5, List.take_left' hl2]
        rw [List.take_take] at h6
        rw [hwc]
        rwa [Nat.min_eq_left] at h6
        rw [← Nat.sub_mul]
        exact Nat.le_mul_of_pos_left _ (by omega)
      rw [this]
      exact hv.cells

/-! ### lengths, strings, functions -/
theorem run_builtin (ρ : Operand → Value) (b : Builtin) (args : Array Operand) (ats : Array TypeId) (w : World) : (execOp ρ ⟨dst, .call ⟨.builtin b, args, ats⟩, ty, pos, after, g⟩).run P w = (builtin b ats ty (args.map fun | .const _ => true | _ => false) (args.map ρ)).run P w := by
  simp [execOp, resolve, invoke, Sem.run_bind, Sem.run_pure, Result.andThen_ok]
  rfl
theorem str_size (l : List UInt8) : (⟨l.toArray⟩ : ByteArray).size = l.length := by show l.toArray.size = l.length; simp
theorem OpT.len_sl {X off len : Nat} {te : TypeId} (h : tElem P t = some te) : OpT P ⟨dst, .call ⟨.builtin .len, #[x], #[t]⟩, ty, pos, after, g⟩ [(x, .sl X off len)] [] (.prim (.int .i64 (len : Int))) [] :=
  .pure_ fun m a hx _ => by
    obtain ⟨_, hU', A, c, e1, h3⟩ := hx (x, .sl X off len) (by simp)
    injection e1 with e1
    simp only at e1
    refine ⟨_, ?_, vv_prim _⟩
    rw [run_builtin]
    simp [builtin, Builtin.len_, e1, run_underlying (tElem_spec h), Sem.run_bind, Sem.run_pure, Result.andThen_ok, goInt]
theorem OpT.len_lst {o : Bool} {t' te : TypeId} {sz : Nat} {l : List AV} (h : tElem P t = some te) : OpT P ⟨dst, .call ⟨.builtin .len, #[x], #[t]⟩, ty, pos, after, g⟩ [(x, .lst false t' sz l)] [] (.prim (.int .i64 (l.length : Int))) [] :=
  .pure_ fun m a hx _ => by
    obtain ⟨_, A, cap, e1, _⟩ := hx (x, .lst false t' sz l) (by simp)
    injection e1 with e1
    simp only at e1
    refine ⟨_, ?_, vv_prim _⟩
    rw [run_builtin]
    simp [builtin, Builtin.len_, e1, run_underlying (tElem_spec h), Sem.run_bind, Sem.run_pure, Result.andThen_ok, goInt]
theorem OpT.len_nil {te : TypeId} (h : tElem P t = some te) : OpT P ⟨dst, .call ⟨.builtin .len, #[x], #[t]⟩, ty, pos, after, g⟩ [(x, .prim (.slice none 0 0))] [] (.prim (.int .i64 0)) [] :=
  .pure_ fun m a hx _ => by
    have e1 := (hx (x, .prim (.slice none 0 0)) (by simp)).prim
    simp only at e1
    refine ⟨_, ?_, vv_prim _⟩
    rw [run_builtin]
    simp [builtin, Builtin.len_, e1, run_underlying (tElem_spec h), Sem.run_bind, Sem.run_pure, Result.andThen_ok, goInt]
theorem OpT.len_str {l : List UInt8} (h : P.underlying t = some .string) : OpT P ⟨dst, .call ⟨.builtin .len, #[x], #[t]⟩, ty, pos, after, g⟩ [(x, .prim (strA l))] [] (.prim (.int .i64 (l.length : Int))) [] :=
  .pure_ fun m a hx _ => by
    have e1 := (hx (x, .prim (strA l)) (by simp)).prim
    simp only at e1
    refine ⟨_, ?_, vv_prim _⟩
    rw [run_builtin]
    simp [builtin, Builtin.len_, e1, strA, run_underlying h, Sem.run_bind, Sem.run_pure, Result.andThen_ok, goInt, str_size]
theorem OpT.index_str {k : IntKind} {l : List UInt8} {i : Nat} {q : Int} (h : P.underlying t = some .string) (hq : q = (i : Int)) (hi : i < l.length) : OpT P ⟨dst, .index t x y, ty, pos, after, g⟩ [(x, .prim (strA l)), (y, .prim (.int k q))] [] (.prim (.int .u8 (l[i].toNat : Int))) [] :=
  .pure_ fun m a hx _ => by
    have e1 := (hx (x, .prim (strA l)) (by simp)).prim
    have hy := (hx (y, .prim (.int k q)) (by simp)).prim
    simp only at e1 hy
    subst hq
    refine ⟨_, ?_, vv_prim _⟩
    have : (ByteArray.mk l.toArray)[i]? = some l[i] := by
      have : i < (ByteArray.mk l.toArray).size := by rw [str_size]; exact hi
      rw [getElem?_pos (ByteArray.mk l.toArray) i this]
      rfl
    simp [execOp, e1, hy, strA, Instr.index, asIntOf, run_underlying h, this, Sem.run_bind, Sem.run_pure, Result.andThen_ok]
theorem OpT.makeFunc {f : FuncId} {xs : List (Operand × AV)} (h1 : st1s (xs.map (·.2)) = true) : OpT P ⟨dst, .makeFunc (.func f) #[] (xs.map (·.1)).toArray, ty, pos, after, g⟩ xs [] (.fn f (xs.map (·.2))) [] :=
  .pure_ fun m a hx _ => by
    have hv : ∀ xs : List (Operand × AV), st1s (xs.map (·.2)) = true → (∀ q ∈ xs, VV m q.2 (a.eval q.1) []) → VCs m (xs.map (·.2)) (xs.map fun q => a.eval q.1) [] := by
      intro xs
      induction xs with
      | nil => intro _ _; exact VCs.nil
      | cons q xs ih =>
        intro hs hx
        simp only [List.map_cons, st1s, Bool.and_eq_true] at hs
        have h0 := hx q (by simp)
        have h1 : VC m q.2 [a.eval q.1] [] := by
          rcases hq : q.2 <;> rw [hq] at h0 hs <;> first | exact h0 | (simp [AV.st1] at hs)
        exact ⟨[a.eval q.1], _, [], [], rfl, rfl, h1, ih hs.2 fun q' hq' => hx q' (by simp [hq'])⟩
    refine ⟨.func (.func f) #[] (xs.map fun q => a.eval q.1).toArray, ?_, (xs.map fun q => a.eval q.1).toArray, rfl, by simpa using hv xs h1 hx⟩
    simp [execOp, Instr.makeFunc, Sem.run_bind, Sem.run_pure, Result.andThen_ok]
theorem OpT.nilCheck_fp {cs : List AV} : OpT P ⟨dst, .nilCheck x, ty, pos, after, g⟩ [(x, .fp cs)] [] (.fp cs) [] :=
  .pure_ fun m a hx _ => by
    have h0 := hx (x, .fp cs) (by simp)
    obtain ⟨_, b, o, arr, t', r, e, _⟩ := id h0
    injection e with e
    simp only at e
    refine ⟨a.eval x, ?_, h0⟩
    simp [execOp, e, Sem.run_pure]
theorem OpT.nilCheck {X i k p sz : Nat} {t' : TypeId} {l : List AV} (hi : i < l.length) : OpT P ⟨dst, .nilCheck x, ty, pos, after, g⟩ [(x, .ptr X i k)] [(p, (X, .row t' sz l))] (.ptr X i k) [] :=
  .pure_ fun m a hx hS => by
    obtain ⟨bs, hO⟩ := hS (p, (X, .row t' sz l)) (by simp)
    obtain ⟨L, arr, c, q, h1, h2, _⟩ := hO.elem (List.getElem?_eq_getElem hi)
    have h0 := hx (x, .ptr X i k) (by simp)
    obtain ⟨_, hU, A, e1, h3⟩ := id h0
    injection e1 with e1
    simp only at e1
    rw [h3 L h1] at e1
    refine ⟨a.eval x, ?_, h0⟩
    simp [execOp, e1, Sem.run_pure]
end
end Go.Proofs.Ytcfleoaldoebhaa
