/-
  Laws of the walk for lists that the call builds: append, make, stores. No conditions.
-/
import Derived.Maps.AppendAt
import Derived.RegionTactic
import Derived.OwnWalk
import Derived.Deep.AppendLies
import Derived.Deep.RegionLaw
import Derived.Test.YtcfleoaldoebhaaMem
namespace Go.Proofs.Ytcfleoaldoebhaa
set_option linter.unusedSimpArgs false
set_option linter.unusedVariables false
open Go.RowKit

/-- t is the type of slices of e; an element has sz cells and takes so many bytes; z is its zero value. -/
structure SlT (P : Program) (t e : TypeId) (sz bytes : Nat) (z : Value) : Prop where
  ht : P.underlying t = some (.slice e)
  hi : (P.info? e).map (fun i => (i.zero, i.size, i.bytes)) = some (some z, sz, bytes)
  hz : z.cells.size = sz
  hsz : 0 < sz

/-- What an element's cells say is kept with the blocks they lead to; each cell is one. -/
structure GoodC {α : Type} (sz : Nat) (C : World → Reg → List Value → α → Prop) : Prop where
  to : ∀ (w w' : World) (S T : Reg) (c : List Value) (x : α), C w S c x → (∀ b, S b → T b) → Same S w w' → C w' T c x
  one : ∀ (w : World) (S : Reg) (c : List Value) (x : α), C w S c x → ∀ u ∈ c, u.oneCell' = true
  len : ∀ (w : World) (S : Reg) (c : List Value) (x : α), C w S c x → c.length = sz

theorem good_int : GoodC 1 intC := ⟨fun _ _ _ _ _ _ h _ _ => h, fun _ _ _ _ h => by rw [h]; simp [Value.oneCell'], fun _ _ _ _ h => by rw [h]; rfl⟩
theorem good_field : GoodC 3 fieldC := ⟨fun _ _ _ _ _ _ h _ _ => h, fun _ _ _ _ h => by rw [h]; simp [Value.oneCell', strV], fun _ _ _ _ h => by rw [h]; rfl⟩
theorem good_ent : GoodC 2 entC := ⟨fun _ _ _ _ _ _ h _ _ => h, fun _ _ _ _ h => by rw [h]; simp [Value.oneCell'], fun _ _ _ _ h => by rw [h]; rfl⟩
theorem good_evt : GoodC 4 evtC := ⟨fun _ _ _ _ _ _ h _ _ => h, fun _ _ _ _ h => by rw [h]; simp [Value.oneCell'], fun _ _ _ _ h => by rw [h]; rfl⟩
theorem good_op : GoodC 11 opC := ⟨fun _ _ _ _ _ _ h _ _ => h, fun _ _ _ _ h => by rw [h]; simp [Value.oneCell'], fun _ _ _ _ h => by rw [h]; rfl⟩
theorem Sl.one {α : Type} {w : World} {S : Reg} {sz : Nat} {C : World → Reg → List Value → α → Prop} {v : Value} {l : List α} (h : Sl w S sz C v l) : v.oneCell' = true := by
  obtain ⟨A, cap, rfl, _⟩ := h.form
  rfl
theorem good_kind : GoodC 2 kindC := ⟨fun _ _ _ _ _ _ h hS hs => h.to hS hs, fun _ _ _ _ h => by obtain ⟨v, rfl, h⟩ := h; obtain ⟨A, cap, rfl, _⟩ := Sl.form h; simp [Value.oneCell', strV], fun _ _ _ _ h => by obtain ⟨v, rfl, h⟩ := h; rfl⟩
theorem good_comp : GoodC 2 compC := ⟨fun _ _ _ _ _ _ h hS hs => h.to hS hs, fun _ _ _ _ h => by obtain ⟨v, rfl, h⟩ := h; obtain ⟨A, cap, rfl, _⟩ := Sl.form h; simp [Value.oneCell'], fun _ _ _ _ h => by obtain ⟨v, rfl, h⟩ := h; rfl⟩
theorem good_item : GoodC 3 itemC := ⟨fun _ _ _ _ _ _ h hS hs => h.to hS hs, fun _ _ _ _ h => by obtain ⟨v, rfl, h⟩ := h; obtain ⟨A, cap, rfl, _⟩ := Sl.form h; simp [Value.oneCell'], fun _ _ _ _ h => by obtain ⟨v, rfl, h⟩ := h; rfl⟩
theorem good_sys : GoodC 7 sysC := ⟨fun _ _ _ _ _ _ h hS hs => h.to hS hs, fun _ _ _ _ h => by obtain ⟨v1, v2, v3, v4, v5, v6, rfl, h1, h2, h3, h4, h5, h6⟩ := h; obtain ⟨_, _, rfl, _⟩ := Sl.form h1; obtain ⟨_, _, rfl, _⟩ := Sl.form h2; obtain ⟨_, _, rfl, _⟩ := Sl.form h3; obtain ⟨_, _, rfl, _⟩ := Sl.form h4; obtain ⟨_, _, rfl, _⟩ := Sl.form h5; obtain ⟨_, _, rfl, _⟩ := Sl.form h6; simp [Value.oneCell', strV], fun _ _ _ _ h => by obtain ⟨v1, v2, v3, v4, v5, v6, rfl, _⟩ := h; rfl⟩

theorem Cells.ones {α : Type} {C : List Value → α → Prop} {sz : Nat} {xs : List Value} {l : List α} (h : Cells C sz xs l) (h1 : ∀ c x, C c x → ∀ u ∈ c, u.oneCell' = true) : ∀ u ∈ xs, u.oneCell' = true := by
  induction l generalizing xs with
  | nil =>
    have : xs = [] := h
    simp [this]
  | cons x l ih =>
    obtain ⟨c, ys, rfl, _, h6, h3⟩ := h
    intro u hu
    rcases List.mem_append.1 hu with hu | hu
    · exact h1 _ _ h6 u hu
    · exact ih h3 u hu

theorem Sl.empty {α : Type} (w : World) (S : Reg) (sz : Nat) (C : World → Reg → List Value → α → Prop) (A : Option Addr) (cap : Nat) : Sl w S sz C (.slice A 0 cap) ([] : List α) :=
  ⟨[], ⟨by simp, A, cap, rfl, Nat.zero_le _, fun h => absurd h (by simp)⟩, rfl⟩
theorem Sl.drop {α : Type} {w : World} {S : Reg} {sz : Nat} {C : World → Reg → List Value → α → Prop} {l : List α} {b off n cap k : Nat} (h : Sl w S sz C (.slice (some ⟨b, off, none⟩) n cap) l) (hk : k ≤ n) :
    Sl w S sz C (.slice (some ⟨b, off + k * sz, none⟩) (n - k) (cap - k)) (l.drop k) := by
  have hc := h.cap
  obtain ⟨xs, h1, h2⟩ := h
  obtain ⟨A', c', e, _⟩ := h1.form
  injection e with e1 e2 e3
  subst e1 e2 e3
  have hl : (l.drop k).length = l.length - k := by rw [List.length_drop]
  refine ⟨xs.drop (k * sz), ⟨?_, _, _, by rw [hl], by omega, fun h0 => ?_⟩, h2.drop k⟩
  · rw [hl, List.length_drop, h1.1, Nat.sub_mul]
  · rw [hl] at h0
    obtain ⟨b', off', hA, hb, hcell⟩ := h1.block (by omega)
    injection hA with hA
    injection hA with e1 e2 e3
    subst e1 e2
    refine ⟨b, off + k * sz, rfl, hb, fun j u hu => ?_⟩
    rw [List.getElem?_drop] at hu
    rw [Nat.add_assoc]
    exact hcell _ u hu

section
variable {P : Program} {t e : TypeId} {sz bytes : Nat} {z : Value}
variable {α : Type} {S : Reg} {C : World → Reg → List Value → α → Prop} {v : Value} {l ls : List α} {base : Nat}

theorem run_append_row (T : SlT P t e sz bytes z) (w : World) (ty : TypeId) {n m : Nat} {xs news : List Value} {R : Reg} {x : Value} (hown : w.ownsRow base e sz v n xs) (hr : Row w R sz x m news)
    (h1 : ∀ u ∈ news, u.oneCell' = true) (hbytes : (n + m) * bytes ≤ 140737488355328) (hlen : n + m ≤ maxLen) (hbase : base ≤ w.heap.size) :
    ∃ v' w', (Builtin.append_ #[t, t] ty #[v, x]).run P w = .ok v' w' ∧ w'.ownsRow base e sz v' (n + m) (xs ++ news) ∧ w.grownBy w' v.ownBlock ∧ (v'.ownBlock = v.ownBlock ∨ v'.ownBlock = some w.heap.size) := by
  obtain ⟨i, hi, hz, h3, h4⟩ := info_parts T.hi
  obtain ⟨A, cap, rfl, hn⟩ := hr.form
  rcases A with _ | ad
  · have hm : m = 0 := by
      rcases Nat.eq_zero_or_pos m with h0 | h0
      · exact h0
      · obtain ⟨b, off, h, _⟩ := hr.block h0
        cases h
    subst hm
    have hn : news = [] := List.eq_nil_of_length_eq_zero (by simpa using hr.1)
    subst hn
    refine ⟨v, w, ?_, by simpa using hown, World.grownBy.refl w _, .inl rfl⟩
    rcases hown.2 with ⟨rfl, rfl⟩ | ⟨g, cap, cur, rfl, _, _, hnc, _⟩
    · simp [Builtin.append_, run_underlying T.ht, sizeOf, typeInfo, hi, Builtin.lenOf, Builtin.firstCells]
    · simp [Builtin.append_, run_underlying T.ht, sizeOf, typeInfo, hi, Builtin.lenOf, Builtin.firstCells, hnc, storeCells]
  · have hcells : ∀ j u, news[j]? = some u → w.cell? (ad.add j) = some u := by
      intro j u hu
      rcases Nat.eq_zero_or_pos m with h0 | h0
      · subst h0
        have hn : news = [] := List.eq_nil_of_length_eq_zero (by simpa using hr.1)
        subst hn
        simp at hu
      · obtain ⟨b, off, h, _, hc⟩ := hr.block h0
        injection h with h
        subst h
        have := hc j u hu
        rwa [show (⟨b, off, none⟩ : Addr).add j = ⟨b, off + j, none⟩ from by unfold Addr.add; split <;> simp_all]
    obtain ⟨v', w', hrun, h2, h3, _, h5⟩ := run_append_own_at (P := P) w base t ty e i z sz bytes T.ht hi hz h3 h4 T.hz T.hsz v n xs hown ad m cap news hr.1 hcells h1 hlen hbytes hbase
    exact ⟨v', w', hrun, h2, h3, h5⟩

/-- append of a whole list to a list of the call's own. -/
theorem run_app (T : SlT P t e sz bytes z) (G : GoodC sz C) (w : World) (ty : TypeId) {x : Value} (hown : OwnL w base e S sz C v l) (hx : Sl w (fun b => S b ∧ b < w.heap.size ∧ v.ownBlock ≠ some b) sz C x ls)
    (hbytes : (l.length + ls.length) * bytes ≤ 140737488355328) (hlen : l.length + ls.length ≤ maxLen) (hbase : base ≤ w.heap.size) :
    ∃ v' w', (Builtin.append_ #[t, t] ty #[v, x]).run P w = .ok v' w' ∧ OwnL w' base e S sz C v' (l ++ ls) ∧ w.grownBy w' v.ownBlock ∧ (v'.ownBlock = v.ownBlock ∨ v'.ownBlock = some w.heap.size) := by
  obtain ⟨xs, h1, h2⟩ := hown
  obtain ⟨news, h3, h4⟩ := hx
  have hone := h4.ones fun c x hc => G.one _ _ _ _ hc
  obtain ⟨v', w', hrun, h5, h6, h7⟩ := run_append_row T w ty h1 h3 hone hbytes hlen hbase
  refine ⟨v', w', hrun, OwnL.app h2 (by simpa using h5) h6 h7 h4 fun S' T' c x hc hS hs => G.to _ _ _ _ _ _ hc hS hs, h6, h7⟩

/-- The one element that 'append(l, y)' lays in a block of its own first. -/
theorem sl_lit (G : GoodC sz C) (w : World) {c : List Value} {y : α} {R : Reg} (hc : C w R c y) (hR : ∀ b, R b → b < w.heap.size) {T : Reg} (hT : ∀ b, R b → T b) (hb : T w.heap.size) :
    Sl (w.alloc (.cells c.toArray e)) T sz C (.slice (some ⟨w.heap.size, 0, none⟩) 1 1) [y] := by
  refine ⟨c, ⟨by simp [G.len _ _ _ _ hc], some ⟨w.heap.size, 0, none⟩, 1, rfl, Nat.le_refl _, fun _ => ⟨w.heap.size, 0, rfl, hb, fun j u hu => ?_⟩⟩, Cells.one (G.len _ _ _ _ hc) (G.to _ _ _ _ _ _ hc hT (Same.alloc w _ hR))⟩
  rw [cell_of_row _ _ (0 + j) c.toArray e (0, 0) (heap_alloc_new w _)]
  simpa using hu

theorem run_app1 (T : SlT P t e sz bytes z) (G : GoodC sz C) (w : World) (ty : TypeId) {c : List Value} {y : α} (hown : OwnL w base e S sz C v l) (hc : C w (fun b => S b ∧ b < w.heap.size ∧ v.ownBlock ≠ some b) c y)
    (hbytes : (l.length + 1) * bytes ≤ 140737488355328) (hlen : l.length + 1 ≤ maxLen) (hbase : base ≤ w.heap.size) :
    ∃ v' w', (Builtin.append_ #[t, t] ty #[v, .slice (some ⟨w.heap.size, 0, none⟩) 1 1]).run P (w.alloc (.cells c.toArray e)) = .ok v' w' ∧ OwnL w' base e S sz C v' (l ++ [y]) ∧ w.grownBy w' v.ownBlock ∧
      (v'.ownBlock = v.ownBlock ∨ v'.ownBlock = some (w.heap.size + 1)) := by
  obtain ⟨xs, h1, h2⟩ := hown
  have hsz1 : (w.alloc (.cells c.toArray e)).heap.size = w.heap.size + 1 := by simp
  have hrow : Row (w.alloc (.cells c.toArray e)) (fun _ => True) sz (.slice (some ⟨w.heap.size, 0, none⟩) 1 1) 1 c := by
    refine ⟨by simp [G.len _ _ _ _ hc], some ⟨w.heap.size, 0, none⟩, 1, rfl, Nat.le_refl _, fun _ => ⟨w.heap.size, 0, rfl, trivial, fun j u hu => ?_⟩⟩
    rw [cell_of_row _ _ (0 + j) c.toArray e (0, 0) (heap_alloc_new w _)]
    simpa using hu
  obtain ⟨v', w', hrun, h5, h6, h7⟩ := run_append_row T (w.alloc (.cells c.toArray e)) ty (h1.alloc _) hrow (G.one _ _ _ _ hc) hbytes hlen (by rw [hsz1]; omega)
  have hg : w.grownBy w' v.ownBlock := ⟨h6.os, h6.tape, h6.output, by have := h6.size; rw [hsz1] at this; omega, fun k hk hne => (h6.block k (by rw [hsz1]; omega) hne).trans (Below.heap_alloc w _ k hk)⟩
  refine ⟨v', w', hrun, ?_, hg, ?_⟩
  · refine ⟨xs ++ c, by simpa using h5, (h2.append (Cells.one (G.len _ _ _ _ hc) hc)).mono fun c' x' hc' => G.to _ _ _ _ _ _ hc' ?_ ?_⟩
    · rintro b ⟨hb, hl, hne⟩
      refine ⟨hb, Nat.lt_of_lt_of_le hl hg.size, ?_⟩
      rcases h7 with e | e <;> rw [e]
      · exact hne
      · intro h'
        injection h' with h'
        rw [hsz1] at h'
        omega
    · rintro b ⟨hb, hl, hne⟩
      exact hg.block b hl (fun e => hne e.symm)
  · rw [hsz1] at h7
    exact h7

theorem wp_app1 (T : SlT P t e sz bytes z) (G : GoodC sz C) {o : Oper} {a : Act} {K : Act → World → Prop} {Q : Exit → Act → World → Prop} (s x : Operand)
    (ho : o.op = .call { callee := .builtin .append, args := #[s, x], argTypes := #[t, t] }) (w : World) {c : List Value} {y : α} (hs : a.eval s = v) (hx : a.eval x = .slice (some ⟨w.heap.size, 0, none⟩) 1 1)
    (hown : OwnL w base e S sz C v l) (hc : C w (fun b => S b ∧ b < w.heap.size ∧ v.ownBlock ≠ some b) c y) (hbytes : (l.length + 1) * bytes ≤ 140737488355328) (hlen : l.length + 1 ≤ maxLen) (hbase : base ≤ w.heap.size)
    (h : ∀ v' w', OwnL w' base e S sz C v' (l ++ [y]) → w.grownBy w' v.ownBlock → (v'.ownBlock = v.ownBlock ∨ v'.ownBlock = some (w.heap.size + 1)) → K (a.put o.dst v') w') : o.wp P a (w.alloc (.cells c.toArray e)) K Q := by
  obtain ⟨v', w', hr, h2, h3, h4⟩ := run_app1 T G w o.type hown hc hbytes hlen hbase
  unfold Oper.wp execOp
  simp only [ho, resolve, invoke, builtin, Sem.run_bind, Sem.run_pure, Result.andThen_ok, List.map_toArray, List.map_cons, List.map_nil, hs, hx, hr]
  exact h v' w' h2 h3 h4

theorem wpList_app1 (T : SlT P t e sz bytes z) (G : GoodC sz C) {ops : Array Oper} {rest : List Oper} {o : Oper} {a : Act} {Q : Exit → Act → World → Prop} (hgd : o.guard = none) (s x : Operand)
    (ho : o.op = .call { callee := .builtin .append, args := #[s, x], argTypes := #[t, t] }) (w : World) {c : List Value} {y : α} (hs : a.eval s = v) (hx : a.eval x = .slice (some ⟨w.heap.size, 0, none⟩) 1 1)
    (hown : OwnL w base e S sz C v l) (hc : C w (fun b => S b ∧ b < w.heap.size ∧ v.ownBlock ≠ some b) c y) (hbytes : (l.length + 1) * bytes ≤ 140737488355328) (hlen : l.length + 1 ≤ maxLen) (hbase : base ≤ w.heap.size)
    (h : ∀ v' w', OwnL w' base e S sz C v' (l ++ [y]) → w.grownBy w' v.ownBlock → (v'.ownBlock = v.ownBlock ∨ v'.ownBlock = some (w.heap.size + 1)) → wpList P ops Q rest (a.put o.dst v') w') : wpList P ops Q (o :: rest) a (w.alloc (.cells c.toArray e)) :=
  wpList_plain hgd fun _ hK => wp_app1 T G s x ho w hs hx hown hc hbytes hlen hbase fun v' w' h2 h3 h4 => hK _ _ (h v' w' h2 h3 h4)

theorem step_app1 (T : SlT P t e sz bytes z) (G : GoodC sz C) {ops : Array Oper} {o : Oper} {a : Act} {K : Act → World → Prop} {Q : Exit → Act → World → Prop} {E : Prop} (hgd : o.guard = none) (s x : Operand)
    (ho : o.op = .call { callee := .builtin .append, args := #[s, x], argTypes := #[t, t] }) (w : World) {c : List Value} {y : α} (hs : a.eval s = v) (hx : a.eval x = .slice (some ⟨w.heap.size, 0, none⟩) 1 1)
    (hown : OwnL w base e S sz C v l) (hc : C w (fun b => S b ∧ b < w.heap.size ∧ v.ownBlock ≠ some b) c y) (hbytes : (l.length + 1) * bytes ≤ 140737488355328) (hlen : l.length + 1 ≤ maxLen) (hbase : base ≤ w.heap.size)
    (h : ∀ v' w', OwnL w' base e S sz C v' (l ++ [y]) → w.grownBy w' v.ownBlock → (v'.ownBlock = v.ownBlock ∨ v'.ownBlock = some (w.heap.size + 1)) → K (a.put o.dst v') w') :
    if Region.wanted o (yielded ops a.tmps) = true then Oper.wp P o a (w.alloc (.cells c.toArray e)) K Q else E := by
  have hw : Region.wanted o (yielded ops a.tmps) = true := by simp [Region.wanted, hgd]
  rw [if_pos hw]
  exact wp_app1 T G s x ho w hs hx hown hc hbytes hlen hbase h

theorem wp_app (T : SlT P t e sz bytes z) (G : GoodC sz C) {o : Oper} {a : Act} {K : Act → World → Prop} {Q : Exit → Act → World → Prop} (s x : Operand)
    (ho : o.op = .call { callee := .builtin .append, args := #[s, x], argTypes := #[t, t] }) (w : World) (hs : a.eval s = v) {y : Value} (hx : a.eval x = y)
    (hown : OwnL w base e S sz C v l) (hy : Sl w (fun b => S b ∧ b < w.heap.size ∧ v.ownBlock ≠ some b) sz C y ls) (hbytes : (l.length + ls.length) * bytes ≤ 140737488355328) (hlen : l.length + ls.length ≤ maxLen) (hbase : base ≤ w.heap.size)
    (h : ∀ v' w', OwnL w' base e S sz C v' (l ++ ls) → w.grownBy w' v.ownBlock → (v'.ownBlock = v.ownBlock ∨ v'.ownBlock = some w.heap.size) → K (a.put o.dst v') w') : o.wp P a w K Q := by
  obtain ⟨v', w', hr, h2, h3, h4⟩ := run_app T G w o.type hown hy hbytes hlen hbase
  unfold Oper.wp execOp
  simp only [ho, resolve, invoke, builtin, Sem.run_bind, Sem.run_pure, Result.andThen_ok, List.map_toArray, List.map_cons, List.map_nil, hs, hx, hr]
  exact h v' w' h2 h3 h4

theorem wpList_app (T : SlT P t e sz bytes z) (G : GoodC sz C) {ops : Array Oper} {rest : List Oper} {o : Oper} {a : Act} {Q : Exit → Act → World → Prop} (hgd : o.guard = none) (s x : Operand)
    (ho : o.op = .call { callee := .builtin .append, args := #[s, x], argTypes := #[t, t] }) (w : World) (hs : a.eval s = v) {y : Value} (hx : a.eval x = y)
    (hown : OwnL w base e S sz C v l) (hy : Sl w (fun b => S b ∧ b < w.heap.size ∧ v.ownBlock ≠ some b) sz C y ls) (hbytes : (l.length + ls.length) * bytes ≤ 140737488355328) (hlen : l.length + ls.length ≤ maxLen) (hbase : base ≤ w.heap.size)
    (h : ∀ v' w', OwnL w' base e S sz C v' (l ++ ls) → w.grownBy w' v.ownBlock → (v'.ownBlock = v.ownBlock ∨ v'.ownBlock = some w.heap.size) → wpList P ops Q rest (a.put o.dst v') w') : wpList P ops Q (o :: rest) a w :=
  wpList_plain hgd fun _ hK => wp_app T G s x ho w hs hx hown hy hbytes hlen hbase fun v' w' h2 h3 h4 => hK _ _ (h v' w' h2 h3 h4)
end

section
variable {α : Type} {w w' : World} {base : Nat} {e : TypeId} {S : Reg} {sz : Nat} {C : World → Reg → List Value → α → Prop} {v : Value} {l : List α}
theorem OwnL.block (h : OwnL w base e S sz C v l) {k : Nat} (hk : v.ownBlock = some k) : base ≤ k ∧ k < w.heap.size := by
  obtain ⟨xs, h1, _⟩ := h
  exact h1.lt k hk
theorem OwnL.keepG (G : GoodC sz C) {row : Option Nat} (h : OwnL w base e S sz C v l) (hg : w.grownBy w' row) (hne : ∀ k, v.ownBlock = some k → row ≠ some k) (hr : ∀ b, S b → b < w.heap.size → some b ≠ row) : OwnL w' base e S sz C v l := by
  obtain ⟨xs, h1, h2⟩ := h
  refine ⟨xs, h1.kept hg ?_, h2.mono fun c x hc => G.to _ _ _ _ _ _ hc ?_ ?_⟩
  · cases hv : v.ownBlock with
    | none => exact .inl rfl
    | some k => exact .inr (fun e => hne k hv e.symm)
  · rintro b ⟨hb, hl, hn⟩
    exact ⟨hb, Nat.lt_of_lt_of_le hl hg.size, hn⟩
  · rintro b ⟨hb, hl, _⟩
    exact hg.block b hl (hr b hb hl)
/-- A block below the call's own turns. -/
theorem OwnL.low (G : GoodC sz C) {g : Nat} (h : OwnL w base e S sz C v l) (hg : w.grownBy w' (some g)) (hgb : g < base) (hS : ∀ b, S b → b ≠ g) : OwnL w' base e S sz C v l :=
  h.keepG G hg (fun k hk e => by injection e with e; have := (h.block hk).1; omega) (fun b hb _ e => by injection e with e; exact hS b hb e)
theorem OwnL.below (G : GoodC sz C) (h : OwnL w base e S sz C v l) (hb : Below w.heap.size w w') : OwnL w' base e S sz C v l :=
  h.keepG (row := none) G ⟨hb.os, hb.tape, hb.output, hb.size, fun k hk _ => hb.block k hk⟩ (fun _ _ e => by cases e) (fun _ _ _ e => by cases e)
theorem grown_set (w : World) (b o : Nat) (u : Value) : w.grownBy (w.setCell ⟨b, o, none⟩ u) (some b) :=
  ⟨rfl, rfl, rfl, by simp [World.setCell], fun k _ hk => Below.heap_setCell _ _ _ _ (fun e => hk (by rw [e]))⟩
/-- The list as what may be read of it. -/
theorem OwnL.read (G : GoodC sz C) (h : OwnL w base e S sz C v l) {T : Reg} (hS : ∀ b, S b → T b) (hb : ∀ b, base ≤ b → b < w.heap.size → T b) : Sl w T sz C v l :=
  h.sl (fun _ _ _ _ hc hT => G.to _ _ _ _ _ _ hc hT (Same.refl _ _)) hS hb
theorem OwnL.len {A : Option Addr} {n cap : Nat} (h : OwnL w base e S sz C (.slice A n cap) l) : n = l.length := by
  obtain ⟨A', c', e, _⟩ := h.form
  injection e
/-- The list as what may be read, all of it in the world's own blocks. -/
theorem OwnL.readW (G : GoodC sz C) (h : OwnL w base e S sz C v l) : Sl w (fun b => b < w.heap.size ∧ (base ≤ b ∨ S b)) sz C v l := by
  obtain ⟨xs, h1, h2⟩ := h
  exact ⟨xs, (Row.of_own h1).to (fun b hh => ⟨hh.2.1, .inl hh.1⟩) (Same.refl _ _), h2.mono fun c x hc => G.to _ _ _ _ _ _ hc (fun b hh => ⟨hh.2.1, .inr hh.1⟩) (Same.refl _ _)⟩
end
end Go.Proofs.Ytcfleoaldoebhaa
