/-
  Words for memory: a slice that reads as a list of data lying in blocks of a set; kept while those blocks are left alone. No conditions.
-/
import Derived.WalkKit
import Derived.Lib.Hide
import Derived.Deep.OwnRows
import Derived.Deep.Draws
import Derived.Test.YtcfleoaldoebhaaData
namespace Go.Proofs.Ytcfleoaldoebhaa
set_option linter.unusedSimpArgs false
set_option linter.unusedVariables false
open Go.RowKit

abbrev Reg := Nat → Prop
/-- The blocks that the world holds. -/
def Lt (w : World) : Reg := fun b => b < w.heap.size
/-- The blocks from n on. -/
def Fr (n : Nat) (w : World) : Reg := fun b => n ≤ b ∧ b < w.heap.size
def Same (S : Reg) (w w' : World) : Prop := ∀ b, S b → w'.heap[b]? = w.heap[b]?

section
variable {w w' w'' : World} {S T : Reg}
theorem Same.refl (S : Reg) (w : World) : Same S w w := fun _ _ => rfl
theorem Same.trans (h : Same S w w') (k : Same S w' w'') : Same S w w'' := fun b hb => (k b hb).trans (h b hb)
theorem Same.mono (h : Same S w w') (hT : ∀ b, T b → S b) : Same T w w' := fun b hb => h b (hT b hb)
theorem Same.cell (h : Same S w w') {b : Nat} (hb : S b) (o : Nat) : w'.cell? ⟨b, o, none⟩ = w.cell? ⟨b, o, none⟩ := World.cell?_of_block (w := w) (h b hb)
theorem Same.below {B : Nat} (h : Below B w w') (hB : ∀ b, S b → b < B) : Same S w w' := fun b hb => h.block b (hB b hb)
theorem Same.lt (h : Below w.heap.size w w') : Same (Lt w) w w' := fun b hb => h.block b hb
theorem Same.grown {row : Option Nat} (h : w.grownBy w' row) (hS : ∀ b, S b → b < w.heap.size ∧ some b ≠ row) : Same S w w' := fun b hb => h.block b (hS b hb).1 (hS b hb).2
theorem Same.alloc (w : World) (o : Obj) (hS : ∀ b, S b → b < w.heap.size) : Same S w (w.alloc o) := fun b hb => Below.heap_alloc w o b (hS b hb)
theorem Same.setCell (w : World) {p : Addr} (u : Value) (hS : ∀ b, S b → b ≠ p.block) : Same S w (w.setCell p u) := fun b hb => Below.heap_setCell w p u b (hS b hb)

/-- What a step 'Below' gives the walk as rules: old cells, old marks. -/
theorem lvl {B : Nat} (hb : Below B w w') : (∀ b o, b < B → w'.cell? ⟨b, o, none⟩ = w.cell? ⟨b, o, none⟩) ∧ (∀ b o, b < B → w'.frozen? ⟨b, o, none⟩ = w.frozen? ⟨b, o, none⟩) :=
  ⟨fun b o h => hb.cell (p := ⟨b, o, none⟩) h, fun b o h => hb.frozen (p := ⟨b, o, none⟩) h⟩
/-- The same for every block of the first world. -/
theorem olderB {a c : World} (h : Below a.heap.size a c) : ∀ b, b < a.heap.size → b < c.heap.size ∧ b ≤ c.heap.size ∧ b < c.heap.size + 1 ∧ b < c.heap.size + 2 ∧ b < c.heap.size + 3 ∧ b < c.heap.size + 4 ∧ b ≠ c.heap.size ∧ c.heap.size ≠ b ∧ b ≠ c.heap.size + 1 ∧ c.heap.size + 1 ≠ b ∧ b ≠ c.heap.size + 2 ∧ c.heap.size + 2 ≠ b ∧ b ≠ c.heap.size + 3 ∧ c.heap.size + 3 ≠ b :=
  fun b hb => by have := h.size; omega
theorem belN {n : Nat} {a c : World} (h : Below n a c) (k : Nat) : Below n a (c.drewN k) := ⟨h.os, h.tape, h.output, h.size, h.block⟩
theorem bel {n m : Nat} {a b c : World} (h : Below n a b) (k : Below m b c) (hm : n ≤ m) : Below n a c := h.trans (k.mono hm)
theorem bel0 {n : Nat} {a b c : World} (h : Below n a b) (k : Below b.heap.size b c) (hm : n ≤ b.heap.size) : Below n a c := h.trans (k.mono hm)
theorem bel1 {n : Nat} {a b c : World} {o : Obj} (h : Below n a b) (k : Below (b.alloc o).heap.size (b.alloc o) c) (hm : n ≤ b.heap.size) : Below n a c := (h.alloc hm o).trans (k.mono (by simp; omega))
theorem bel2 {n : Nat} {a b c : World} {o o' : Obj} (h : Below n a b) (k : Below ((b.alloc o).alloc o').heap.size ((b.alloc o).alloc o') c) (hm : n ≤ b.heap.size) : Below n a c := ((h.alloc hm o).alloc (by simp; omega) o').trans (k.mono (by simp; omega))
/-- A block's number beside a later heap's size, in each form that the walk asks. -/
theorem older {b n : Nat} (h : b < n) : b < n ∧ b ≤ n ∧ b < n + 1 ∧ b < n + 2 ∧ b < n + 3 ∧ b < n + 4 ∧ b ≠ n ∧ n ≠ b ∧ b ≠ n + 1 ∧ n + 1 ≠ b ∧ b ≠ n + 2 ∧ n + 2 ≠ b ∧ b ≠ n + 3 ∧ n + 3 ≠ b := by omega

/-- The slice value v holds n elements of sz cells each: the cells xs, in a block of S (none is asked of an empty one). -/
def Row (w : World) (S : Reg) (sz : Nat) (v : Value) (n : Nat) (xs : List Value) : Prop :=
  xs.length = n * sz ∧ ∃ A cap, v = .slice A n cap ∧ n ≤ cap ∧ (0 < n → ∃ b off, A = some ⟨b, off, none⟩ ∧ S b ∧ ∀ j u, xs[j]? = some u → w.cell? ⟨b, off + j, none⟩ = some u)

variable {sz n : Nat} {v : Value} {xs : List Value}
theorem Row.to (h : Row w S sz v n xs) (hST : ∀ b, S b → T b) (hs : Same S w w') : Row w' T sz v n xs := by
  obtain ⟨h1, A, cap, hv, hn, hr⟩ := h
  refine ⟨h1, A, cap, hv, hn, fun h0 => ?_⟩
  obtain ⟨b, off, hA, hb, hc⟩ := hr h0
  exact ⟨b, off, hA, hST b hb, fun j u hu => (hs.cell hb _).trans (hc j u hu)⟩
theorem Row.form (h : Row w S sz v n xs) : ∃ A cap, v = .slice A n cap ∧ n ≤ cap := by
  obtain ⟨_, A, cap, hv, hn, _⟩ := h
  exact ⟨A, cap, hv, hn⟩
theorem Row.nil (w : World) (S : Reg) (sz : Nat) : Row w S sz (.slice none 0 0) 0 [] := ⟨by simp, none, 0, rfl, Nat.le_refl _, fun h => absurd h (by omega)⟩
theorem Row.block {A : Option Addr} {cap : Nat} (h : Row w S sz (.slice A n cap) n xs) (hn : 0 < n) : ∃ b off, A = some ⟨b, off, none⟩ ∧ S b ∧ ∀ j u, xs[j]? = some u → w.cell? ⟨b, off + j, none⟩ = some u := by
  obtain ⟨_, A', cap', hv, _, hr⟩ := h
  injection hv with h1 h2 h3
  subst h1
  exact hr hn
theorem Row.of_own {base : Nat} {e : TypeId} (h : w.ownsRow base e sz v n xs) : Row w (fun b => base ≤ b ∧ b < w.heap.size ∧ v.ownBlock = some b) sz v n xs := by
  refine ⟨h.1, ?_⟩
  rcases h.2 with ⟨rfl, rfl⟩ | ⟨g, cap, cur, rfl, hb, hg, hn, hc, hs, ht⟩
  · exact ⟨none, 0, rfl, Nat.le_refl _, fun h => absurd h (by omega)⟩
  · refine ⟨_, cap, rfl, hn, fun _ => ⟨g, 0, rfl, ⟨hb, lt_of_block hg, rfl⟩, fun j u hu => ?_⟩⟩
    have := h.cells (g := g) rfl j u hu
    rwa [show (⟨g, 0, none⟩ : Addr).add j = ⟨g, 0 + j, none⟩ from by unfold Addr.add; split <;> simp_all] at this
end

/-- The cells xs are those of the data l, sz cells each. -/
def Cells {α : Type} (C : List Value → α → Prop) (sz : Nat) : List Value → List α → Prop
  | xs, [] => xs = []
  | xs, x :: l => ∃ c ys, xs = c ++ ys ∧ c.length = sz ∧ C c x ∧ Cells C sz ys l

section
variable {α : Type} {C C' : List Value → α → Prop} {sz : Nat} {xs ys : List Value} {l m : List α}
theorem Cells.nil : Cells C sz [] [] := rfl
theorem Cells.cons {c : List Value} {x : α} (h1 : c.length = sz) (h2 : C c x) (h3 : Cells C sz xs l) : Cells C sz (c ++ xs) (x :: l) := ⟨c, xs, rfl, h1, h2, h3⟩
theorem Cells.uncons {x : α} (h : Cells C sz xs (x :: l)) : ∃ c ys, xs = c ++ ys ∧ c.length = sz ∧ C c x ∧ Cells C sz ys l := h
theorem Cells.length (h : Cells C sz xs l) : xs.length = l.length * sz := by
  induction l generalizing xs with
  | nil => have : xs = [] := h; simp [this]
  | cons x l ih =>
    obtain ⟨c, ys, rfl, h1, _, h3⟩ := h
    simp [ih h3, h1, Nat.add_mul, Nat.add_comm]
theorem Cells.mono (h : Cells C sz xs l) (hC : ∀ c x, C c x → C' c x) : Cells C' sz xs l := by
  induction l generalizing xs with
  | nil => exact h
  | cons x l ih =>
    obtain ⟨c, ys, rfl, h1, h2, h3⟩ := h
    exact ⟨c, ys, rfl, h1, hC _ _ h2, ih h3⟩
theorem Cells.one {c : List Value} {x : α} (h1 : c.length = sz) (h : C c x) : Cells C sz c [x] := ⟨c, [], by simp, h1, h, rfl⟩
theorem Cells.append (h : Cells C sz xs l) (k : Cells C sz ys m) : Cells C sz (xs ++ ys) (l ++ m) := by
  induction l generalizing xs with
  | nil =>
    have : xs = [] := h
    subst this
    exact k
  | cons x l ih =>
    obtain ⟨c, zs, rfl, h1, h2, h3⟩ := h
    exact ⟨c, zs ++ ys, by simp, h1, h2, ih h3⟩
theorem Cells.split (l : List α) : ∀ {xs : List Value}, Cells C sz xs (l ++ m) → ∃ ys zs, xs = ys ++ zs ∧ Cells C sz ys l ∧ Cells C sz zs m := by
  induction l with
  | nil => intro xs h; exact ⟨[], xs, rfl, rfl, h⟩
  | cons x l ih =>
    intro xs h
    obtain ⟨c, ys, rfl, h1, h2, h3⟩ := Cells.uncons (l := l ++ m) h
    obtain ⟨y1, y2, rfl, h4, h5⟩ := ih h3
    exact ⟨c ++ y1, y2, by simp, .cons h1 h2 h4, h5⟩
theorem Cells.take (h : Cells C sz xs l) (k : Nat) : Cells C sz (xs.take (k * sz)) (l.take k) := by
  have h' : Cells C sz xs (l.take k ++ l.drop k) := by rwa [List.take_append_drop]
  obtain ⟨ys, zs, rfl, h1, h2⟩ := Cells.split _ h'
  rcases Nat.lt_or_ge k l.length with hk | hk
  · have := h1.length
    rw [List.length_take, Nat.min_eq_left (by omega)] at this
    rwa [List.take_append_of_le_length (by omega), List.take_of_length_le (by omega)]
  · have e := h2.length
    rw [List.length_drop, Nat.sub_eq_zero_of_le hk, Nat.zero_mul] at e
    have : zs = [] := List.eq_nil_of_length_eq_zero e
    subst this
    have := h1.length
    rw [List.length_take, Nat.min_eq_right hk] at this
    rw [List.append_nil, List.take_of_length_le (by rw [this]; exact Nat.mul_le_mul_right _ hk)]
    exact h1
theorem Cells.drop (h : Cells C sz xs l) (k : Nat) : Cells C sz (xs.drop (k * sz)) (l.drop k) := by
  have h' : Cells C sz xs (l.take k ++ l.drop k) := by rwa [List.take_append_drop]
  obtain ⟨ys, zs, rfl, h1, h2⟩ := Cells.split _ h'
  rcases Nat.lt_or_ge k l.length with hk | hk
  · have := h1.length
    rw [List.length_take, Nat.min_eq_left (by omega)] at this
    rw [List.drop_append_of_le_length (by omega), List.drop_of_length_le (by omega)]
    simpa using h2
  · have e := h2.length
    rw [List.length_drop, Nat.sub_eq_zero_of_le hk, Nat.zero_mul] at e
    have : zs = [] := List.eq_nil_of_length_eq_zero e
    subst this
    have := h1.length
    rw [List.length_take, Nat.min_eq_right hk] at this
    rw [List.append_nil, List.drop_of_length_le (by rw [this]; exact Nat.mul_le_mul_right _ hk)]
    exact h2
theorem Cells.get (h : Cells C sz xs l) {i : Nat} (hi : i < l.length) : ∃ c, C c l[i] ∧ c.length = sz ∧ ∀ j u, c[j]? = some u → xs[i * sz + j]? = some u := by
  have hd := h.drop i
  rw [List.drop_eq_getElem_cons hi] at hd
  obtain ⟨c, ys, e, h1, h2, h3⟩ := Cells.uncons hd
  refine ⟨c, h2, h1, fun j u hu => ?_⟩
  rw [← List.getElem?_drop, e, List.getElem?_append_left (List.getElem?_eq_some_iff.1 hu).1]
  exact hu
end

/-- The slice value v reads as the list l, each element by C, all in blocks of S. -/
def Sl {α : Type} (w : World) (S : Reg) (sz : Nat) (C : World → Reg → List Value → α → Prop) (v : Value) (l : List α) : Prop :=
  ∃ xs, Row w S sz v l.length xs ∧ Cells (C w S) sz xs l

section
variable {α : Type} {w w' : World} {S T : Reg} {sz : Nat} {C : World → Reg → List Value → α → Prop} {v : Value} {l : List α}
theorem Sl.to (h : Sl w S sz C v l) (hC : ∀ c x, C w S c x → C w' T c x) (hST : ∀ b, S b → T b) (hs : Same S w w') : Sl w' T sz C v l := by
  obtain ⟨xs, h1, h2⟩ := h
  exact ⟨xs, h1.to hST hs, h2.mono hC⟩
theorem Sl.nil (w : World) (S : Reg) (sz : Nat) (C : World → Reg → List Value → α → Prop) : Sl w S sz C (.slice none 0 0) [] := ⟨[], Row.nil w S sz, .nil⟩
theorem Sl.form (h : Sl w S sz C v l) : ∃ A cap, v = .slice A l.length cap ∧ l.length ≤ cap := by
  obtain ⟨xs, h1, _⟩ := h
  exact h1.form
theorem Sl.len {A : Option Addr} {n cap : Nat} (h : Sl w S sz C (.slice A n cap) l) : n = l.length := by
  obtain ⟨A', c', e, _⟩ := h.form
  injection e
theorem Sl.cap {A : Option Addr} {n cap : Nat} (h : Sl w S sz C (.slice A n cap) l) : n ≤ cap := by
  obtain ⟨A', c', e, hc⟩ := h.form
  injection e with _ e1 e2
  omega
theorem Sl.take {A : Option Addr} {n cap k : Nat} (h : Sl w S sz C (.slice A n cap) l) (hk : k ≤ n) : Sl w S sz C (.slice A k cap) (l.take k) := by
  have hc := h.cap
  obtain ⟨xs, h1, h2⟩ := h
  obtain ⟨A', c', e, _⟩ := h1.form
  injection e with e1 e2 e3
  subst e1 e2 e3
  have hl : (l.take k).length = k := by rw [List.length_take]; omega
  refine ⟨xs.take (k * sz), ⟨?_, A, cap, by rw [hl], by omega, fun h0 => ?_⟩, h2.take k⟩
  · rw [hl, List.length_take, h1.1]
    exact Nat.min_eq_left (Nat.mul_le_mul_right _ hk)
  · rw [hl] at h0
    obtain ⟨b, off, hA, hb, hcell⟩ := h1.block (by omega)
    refine ⟨b, off, hA, hb, fun j u hu => hcell j u ?_⟩
    rw [List.getElem?_take] at hu
    split at hu
    · exact hu
    · cases hu
theorem Sl.at {A : Option Addr} {n cap : Nat} (h : Sl w S sz C (.slice A n cap) l) {i : Nat} (hi : i < l.length) : ∃ b off c, A = some ⟨b, off, none⟩ ∧ S b ∧ C w S c l[i] ∧ c.length = sz ∧ ∀ j u, c[j]? = some u → w.cell? ⟨b, off + (i * sz + j), none⟩ = some u := by
  obtain ⟨xs, h1, h2⟩ := h
  obtain ⟨A', cap', hv, _⟩ := h1.form
  injection hv with e1 e2 e3
  subst e1 e2 e3
  obtain ⟨b, off, hA, hb, hc⟩ := h1.block (by omega)
  obtain ⟨c, hc1, hc2, hc3⟩ := h2.get hi
  exact ⟨b, off, c, hA, hb, hc1, hc2, fun j u hu => hc _ _ (hc3 j u hu)⟩
end

/-! ### The program's data in memory -/
abbrev strV (l : List UInt8) : Value := .string ⟨l.toArray⟩
abbrev i64V (x : Int) : Value := .int .i64 x

def intC (_ : World) (_ : Reg) (c : List Value) (x : Int) : Prop := c = [.int .i64 x]
def fieldC (_ : World) (_ : Reg) (c : List Value) (f : Field) : Prop := c = [strV f.name, .int .i64 f.bits, .int .i64 f.low]
def entC (_ : World) (_ : Reg) (c : List Value) (e : Ent) : Prop := c = [.int .i64 e.n, .int .i64 e.gen]
def evtC (_ : World) (_ : Reg) (c : List Value) (e : Evt) : Prop := c = [.int .i64 e.sys, .int .i64 e.ent.n, .int .i64 e.ent.gen, .int .i64 e.val]
abbrev Ints (w : World) (S : Reg) (v : Value) (l : List Int) : Prop := Sl w S 1 intC v l
abbrev Fields (w : World) (S : Reg) (v : Value) (l : List Field) : Prop := Sl w S 3 fieldC v l
abbrev Ents (w : World) (S : Reg) (v : Value) (l : List Ent) : Prop := Sl w S 2 entC v l
abbrev Evts (w : World) (S : Reg) (v : Value) (l : List Evt) : Prop := Sl w S 4 evtC v l
def kindC (w : World) (S : Reg) (c : List Value) (k : Kind) : Prop := ∃ vf, c = [strV k.name, vf] ∧ Fields w S vf k.fields
abbrev Kinds (w : World) (S : Reg) (v : Value) (l : List Kind) : Prop := Sl w S 2 kindC v l
def compC (w : World) (S : Reg) (c : List Value) (x : Comp) : Prop := ∃ v, c = [.int .i64 x.kind, v] ∧ Ints w S v x.vals
abbrev Comps (w : World) (S : Reg) (v : Value) (l : List Comp) : Prop := Sl w S 2 compC v l
def itemC (w : World) (S : Reg) (c : List Value) (x : Item) : Prop := ∃ v, c = [.int .i64 x.ent.n, .int .i64 x.ent.gen, v] ∧ Comps w S v x.comps
abbrev Items (w : World) (S : Reg) (v : Value) (l : List Item) : Prop := Sl w S 3 itemC v l
def wdC (w : World) (S : Reg) (c : List Value) (x : Wd) : Prop := ∃ vk vg vi, c = [vk, vg, vi] ∧ Kinds w S vk x.kinds ∧ Ints w S vg x.gens ∧ Items w S vi x.items
def refCells (r : Ref) : List Value := [.int .i64 r.kind, .int .i64 r.field]
def argCells (a : Arg) : List Value := [.bool a.has, .int .i64 a.n, .int .i64 a.ref.kind, .int .i64 a.ref.field]
def opC (_ : World) (_ : Reg) (c : List Value) (o : Op) : Prop := c = [.int .i64 o.act, .int .i64 o.to.kind, .int .i64 o.to.field, .bool o.a.has, .int .i64 o.a.n, .int .i64 o.a.ref.kind, .int .i64 o.a.ref.field, .bool o.b.has, .int .i64 o.b.n, .int .i64 o.b.ref.kind, .int .i64 o.b.ref.field]
abbrev Ops (w : World) (S : Reg) (v : Value) (l : List Op) : Prop := Sl w S 11 opC v l
def sysC (w : World) (S : Reg) (c : List Value) (x : Sys) : Prop := ∃ v1 v2 v3 v4 v5 v6, c = [strV x.name, v1, v2, v3, v4, v5, v6] ∧ Ints w S v1 x.wth ∧ Ints w S v2 x.wout ∧ Ints w S v3 x.reads ∧ Ints w S v4 x.writes ∧ Ops w S v5 x.ops ∧ Comps w S v6 x.spawn
abbrev Syss (w : World) (S : Reg) (v : Value) (l : List Sys) : Prop := Sl w S 7 sysC v l

section
variable {w w' : World} {S T : Reg} {v : Value}
theorem Ints.to {l : List Int} (h : Ints w S v l) (hST : ∀ b, S b → T b) (hs : Same S w w') : Ints w' T v l := Sl.to h (fun _ _ h => h) hST hs
theorem Fields.to {l : List Field} (h : Fields w S v l) (hST : ∀ b, S b → T b) (hs : Same S w w') : Fields w' T v l := Sl.to h (fun _ _ h => h) hST hs
theorem Ents.to {l : List Ent} (h : Ents w S v l) (hST : ∀ b, S b → T b) (hs : Same S w w') : Ents w' T v l := Sl.to h (fun _ _ h => h) hST hs
theorem Evts.to {l : List Evt} (h : Evts w S v l) (hST : ∀ b, S b → T b) (hs : Same S w w') : Evts w' T v l := Sl.to h (fun _ _ h => h) hST hs
theorem Ops.to {l : List Op} (h : Ops w S v l) (hST : ∀ b, S b → T b) (hs : Same S w w') : Ops w' T v l := Sl.to h (fun _ _ h => h) hST hs
theorem kindC.to {c : List Value} {x : Kind} (h : kindC w S c x) (hST : ∀ b, S b → T b) (hs : Same S w w') : kindC w' T c x := by
  obtain ⟨vf, e, h⟩ := h
  exact ⟨vf, e, Fields.to h hST hs⟩
theorem Kinds.to {l : List Kind} (h : Kinds w S v l) (hST : ∀ b, S b → T b) (hs : Same S w w') : Kinds w' T v l := Sl.to h (fun _ _ h => h.to hST hs) hST hs
theorem compC.to {c : List Value} {x : Comp} (h : compC w S c x) (hST : ∀ b, S b → T b) (hs : Same S w w') : compC w' T c x := by
  obtain ⟨v, e, h⟩ := h
  exact ⟨v, e, Ints.to h hST hs⟩
theorem Comps.to {l : List Comp} (h : Comps w S v l) (hST : ∀ b, S b → T b) (hs : Same S w w') : Comps w' T v l := Sl.to h (fun _ _ h => h.to hST hs) hST hs
theorem itemC.to {c : List Value} {x : Item} (h : itemC w S c x) (hST : ∀ b, S b → T b) (hs : Same S w w') : itemC w' T c x := by
  obtain ⟨v, e, h⟩ := h
  exact ⟨v, e, Comps.to h hST hs⟩
theorem Items.to {l : List Item} (h : Items w S v l) (hST : ∀ b, S b → T b) (hs : Same S w w') : Items w' T v l := Sl.to h (fun _ _ h => h.to hST hs) hST hs
theorem wdC.to {c : List Value} {x : Wd} (h : wdC w S c x) (hST : ∀ b, S b → T b) (hs : Same S w w') : wdC w' T c x := by
  obtain ⟨vk, vg, vi, e, h1, h2, h3⟩ := h
  exact ⟨vk, vg, vi, e, Kinds.to h1 hST hs, Ints.to h2 hST hs, Items.to h3 hST hs⟩
theorem sysC.to {c : List Value} {x : Sys} (h : sysC w S c x) (hST : ∀ b, S b → T b) (hs : Same S w w') : sysC w' T c x := by
  obtain ⟨v1, v2, v3, v4, v5, v6, e, h1, h2, h3, h4, h5, h6⟩ := h
  exact ⟨v1, v2, v3, v4, v5, v6, e, Ints.to h1 hST hs, Ints.to h2 hST hs, Ints.to h3 hST hs, Ints.to h4 hST hs, Ops.to h5 hST hs, Comps.to h6 hST hs⟩
theorem Syss.to {l : List Sys} (h : Syss w S v l) (hST : ∀ b, S b → T b) (hs : Same S w w') : Syss w' T v l := Sl.to h (fun _ _ h => h.to hST hs) hST hs

/-! what was readable stays readable while nothing old turns -/
theorem Ints.up {l : List Int} (h : Ints w (Lt w) v l) (hb : Below w.heap.size w w') : Ints w' (Lt w') v l := h.to (fun b hb' => Nat.lt_of_lt_of_le hb' hb.size) (Same.lt hb)
theorem Fields.up {l : List Field} (h : Fields w (Lt w) v l) (hb : Below w.heap.size w w') : Fields w' (Lt w') v l := h.to (fun b hb' => Nat.lt_of_lt_of_le hb' hb.size) (Same.lt hb)
theorem Ents.up {l : List Ent} (h : Ents w (Lt w) v l) (hb : Below w.heap.size w w') : Ents w' (Lt w') v l := h.to (fun b hb' => Nat.lt_of_lt_of_le hb' hb.size) (Same.lt hb)
theorem Evts.up {l : List Evt} (h : Evts w (Lt w) v l) (hb : Below w.heap.size w w') : Evts w' (Lt w') v l := h.to (fun b hb' => Nat.lt_of_lt_of_le hb' hb.size) (Same.lt hb)
theorem Ops.up {l : List Op} (h : Ops w (Lt w) v l) (hb : Below w.heap.size w w') : Ops w' (Lt w') v l := h.to (fun b hb' => Nat.lt_of_lt_of_le hb' hb.size) (Same.lt hb)
theorem Kinds.up {l : List Kind} (h : Kinds w (Lt w) v l) (hb : Below w.heap.size w w') : Kinds w' (Lt w') v l := h.to (fun b hb' => Nat.lt_of_lt_of_le hb' hb.size) (Same.lt hb)
theorem Comps.up {l : List Comp} (h : Comps w (Lt w) v l) (hb : Below w.heap.size w w') : Comps w' (Lt w') v l := h.to (fun b hb' => Nat.lt_of_lt_of_le hb' hb.size) (Same.lt hb)
theorem Items.up {l : List Item} (h : Items w (Lt w) v l) (hb : Below w.heap.size w w') : Items w' (Lt w') v l := h.to (fun b hb' => Nat.lt_of_lt_of_le hb' hb.size) (Same.lt hb)
theorem Syss.up {l : List Sys} (h : Syss w (Lt w) v l) (hb : Below w.heap.size w w') : Syss w' (Lt w') v l := h.to (fun b hb' => Nat.lt_of_lt_of_le hb' hb.size) (Same.lt hb)
theorem kindC.up {c : List Value} {x : Kind} (h : kindC w (Lt w) c x) (hb : Below w.heap.size w w') : kindC w' (Lt w') c x := h.to (fun b hb' => Nat.lt_of_lt_of_le hb' hb.size) (Same.lt hb)
theorem compC.up {c : List Value} {x : Comp} (h : compC w (Lt w) c x) (hb : Below w.heap.size w w') : compC w' (Lt w') c x := h.to (fun b hb' => Nat.lt_of_lt_of_le hb' hb.size) (Same.lt hb)
theorem itemC.up {c : List Value} {x : Item} (h : itemC w (Lt w) c x) (hb : Below w.heap.size w w') : itemC w' (Lt w') c x := h.to (fun b hb' => Nat.lt_of_lt_of_le hb' hb.size) (Same.lt hb)
theorem wdC.up {c : List Value} {x : Wd} (h : wdC w (Lt w) c x) (hb : Below w.heap.size w w') : wdC w' (Lt w') c x := h.to (fun b hb' => Nat.lt_of_lt_of_le hb' hb.size) (Same.lt hb)
theorem sysC.up {c : List Value} {x : Sys} (h : sysC w (Lt w) c x) (hb : Below w.heap.size w w') : sysC w' (Lt w') c x := h.to (fun b hb' => Nat.lt_of_lt_of_le hb' hb.size) (Same.lt hb)

/-! one element, its cells written out, at the addresses that the walk computes -/
variable {A : Option Addr} {n cap i : Nat}
theorem Ints.at {l : List Int} (h : Ints w S (.slice A n cap) l) (hi : i < l.length) : ∃ b off, A = some ⟨b, off, none⟩ ∧ S b ∧ w.cell? ⟨b, off + i, none⟩ = some (.int .i64 l[i]) := by
  obtain ⟨b, off, c, hA, hb, hc, _, hj⟩ := Sl.at h hi
  subst hc
  have h0 := hj 0 _ rfl
  simp only [Nat.mul_one, Nat.add_zero] at h0
  exact ⟨b, off, hA, hb, h0⟩
theorem Fields.at {l : List Field} (h : Fields w S (.slice A n cap) l) (hi : i < l.length) : ∃ b off, A = some ⟨b, off, none⟩ ∧ S b ∧ w.cell? ⟨b, off + i * 3, none⟩ = some (strV l[i].name) ∧ w.cell? ⟨b, off + i * 3 + 1, none⟩ = some (.int .i64 l[i].bits) ∧ w.cell? ⟨b, off + i * 3 + 2, none⟩ = some (.int .i64 l[i].low) := by
  obtain ⟨b, off, c, hA, hb, hc, _, hj⟩ := Sl.at h hi
  subst hc
  exact ⟨b, off, hA, hb, hj 0 _ rfl, hj 1 _ rfl, hj 2 _ rfl⟩
theorem Ents.at {l : List Ent} (h : Ents w S (.slice A n cap) l) (hi : i < l.length) : ∃ b off, A = some ⟨b, off, none⟩ ∧ S b ∧ w.cell? ⟨b, off + i * 2, none⟩ = some (.int .i64 l[i].n) ∧ w.cell? ⟨b, off + i * 2 + 1, none⟩ = some (.int .i64 l[i].gen) := by
  obtain ⟨b, off, c, hA, hb, hc, _, hj⟩ := Sl.at h hi
  subst hc
  exact ⟨b, off, hA, hb, hj 0 _ rfl, hj 1 _ rfl⟩
theorem Evts.at {l : List Evt} (h : Evts w S (.slice A n cap) l) (hi : i < l.length) : ∃ b off, A = some ⟨b, off, none⟩ ∧ S b ∧ w.cell? ⟨b, off + i * 4, none⟩ = some (.int .i64 l[i].sys) ∧ w.cell? ⟨b, off + i * 4 + 1, none⟩ = some (.int .i64 l[i].ent.n) ∧ w.cell? ⟨b, off + i * 4 + 2, none⟩ = some (.int .i64 l[i].ent.gen) ∧ w.cell? ⟨b, off + i * 4 + 3, none⟩ = some (.int .i64 l[i].val) := by
  obtain ⟨b, off, c, hA, hb, hc, _, hj⟩ := Sl.at h hi
  subst hc
  exact ⟨b, off, hA, hb, hj 0 _ rfl, hj 1 _ rfl, hj 2 _ rfl, hj 3 _ rfl⟩
theorem Kinds.at {l : List Kind} (h : Kinds w S (.slice A n cap) l) (hi : i < l.length) : ∃ b off B m, A = some ⟨b, off, none⟩ ∧ S b ∧ w.cell? ⟨b, off + i * 2, none⟩ = some (strV l[i].name) ∧ w.cell? ⟨b, off + i * 2 + 1, none⟩ = some (.slice B l[i].fields.length m) ∧ Fields w S (.slice B l[i].fields.length m) l[i].fields := by
  obtain ⟨b, off, c, hA, hb, ⟨vf, rfl, hf⟩, _, hj⟩ := Sl.at h hi
  obtain ⟨B, m, rfl, _⟩ := hf.form
  exact ⟨b, off, B, m, hA, hb, hj 0 _ rfl, hj 1 _ rfl, hf⟩
theorem Comps.at {l : List Comp} (h : Comps w S (.slice A n cap) l) (hi : i < l.length) : ∃ b off B m, A = some ⟨b, off, none⟩ ∧ S b ∧ w.cell? ⟨b, off + i * 2, none⟩ = some (.int .i64 l[i].kind) ∧ w.cell? ⟨b, off + i * 2 + 1, none⟩ = some (.slice B l[i].vals.length m) ∧ Ints w S (.slice B l[i].vals.length m) l[i].vals := by
  obtain ⟨b, off, c, hA, hb, ⟨vf, rfl, hf⟩, _, hj⟩ := Sl.at h hi
  obtain ⟨B, m, rfl, _⟩ := hf.form
  exact ⟨b, off, B, m, hA, hb, hj 0 _ rfl, hj 1 _ rfl, hf⟩
theorem Items.at {l : List Item} (h : Items w S (.slice A n cap) l) (hi : i < l.length) : ∃ b off B m, A = some ⟨b, off, none⟩ ∧ S b ∧ w.cell? ⟨b, off + i * 3, none⟩ = some (.int .i64 l[i].ent.n) ∧ w.cell? ⟨b, off + i * 3 + 1, none⟩ = some (.int .i64 l[i].ent.gen) ∧ w.cell? ⟨b, off + i * 3 + 2, none⟩ = some (.slice B l[i].comps.length m) ∧ Comps w S (.slice B l[i].comps.length m) l[i].comps := by
  obtain ⟨b, off, c, hA, hb, ⟨vf, rfl, hf⟩, _, hj⟩ := Sl.at h hi
  obtain ⟨B, m, rfl, _⟩ := hf.form
  exact ⟨b, off, B, m, hA, hb, hj 0 _ rfl, hj 1 _ rfl, hj 2 _ rfl, hf⟩
end

/-! ### Lists that the call builds by append -/
/-- The call's own row v (elements of type e) holds the list l; what its elements lead to lies in blocks of S other than the row's own. -/
def OwnL {α : Type} (w : World) (base : Nat) (e : TypeId) (S : Reg) (sz : Nat) (C : World → Reg → List Value → α → Prop) (v : Value) (l : List α) : Prop :=
  ∃ xs, w.ownsRow base e sz v l.length xs ∧ Cells (C w (fun b => S b ∧ b < w.heap.size ∧ v.ownBlock ≠ some b)) sz xs l

section
variable {α : Type} {w w' : World} {base : Nat} {e : TypeId} {S T : Reg} {sz : Nat} {C : World → Reg → List Value → α → Prop} {v : Value} {l : List α}
theorem OwnL.nil (w : World) (base : Nat) (e : TypeId) (S : Reg) (sz : Nat) (C : World → Reg → List Value → α → Prop) : OwnL w base e S sz C (.slice none 0 0) ([] : List α) :=
  ⟨[], World.ownsRow_nil w base e sz, .nil⟩
theorem OwnL.sl (h : OwnL w base e S sz C v l) (hC : ∀ S' T' c x, C w S' c x → (∀ b, S' b → T' b) → C w T' c x) (hS : ∀ b, S b → T b) (hb : ∀ b, base ≤ b → b < w.heap.size → T b) : Sl w T sz C v l := by
  obtain ⟨xs, h1, h2⟩ := h
  exact ⟨xs, (Row.of_own h1).to (fun b hh => hb b hh.1 hh.2.1) (Same.refl _ _), h2.mono fun c x hc => hC _ _ c x hc (fun b hh => hS b hh.1)⟩
theorem OwnL.form (h : OwnL w base e S sz C v l) : ∃ A cap, v = .slice A l.length cap ∧ l.length ≤ cap := by
  obtain ⟨xs, h1, _⟩ := h
  exact (Row.of_own h1).form
/-- Other blocks turn, new ones come. -/
theorem OwnL.keep {row : Option Nat} (h : OwnL w base e S sz C v l) (hg : w.grownBy w' row) (hne : v.ownBlock = none ∨ v.ownBlock ≠ row) (hC : ∀ S' T' c x, C w S' c x → (∀ b, S' b → T' b) → Same S' w w' → C w' T' c x) (hS : ∀ b, S b → b < w.heap.size → T b) (hr : ∀ b, S b → some b ≠ row) : OwnL w' base e T sz C v l := by
  obtain ⟨xs, h1, h2⟩ := h
  refine ⟨xs, h1.kept hg hne, h2.mono fun c x hc => hC _ _ c x hc ?_ ?_⟩
  · rintro b ⟨hb, hl, hn⟩
    exact ⟨hS b hb hl, Nat.lt_of_lt_of_le hl hg.size, hn⟩
  · rintro b ⟨hb, hl, _⟩
    exact hg.block b hl (hr b hb)
/-- What an append leaves. -/
theorem OwnL.app {v' : Value} {news : List Value} {ls : List α} {xs : List Value} (hcell : Cells (C w (fun b => S b ∧ b < w.heap.size ∧ v.ownBlock ≠ some b)) sz xs l) (hown : w'.ownsRow base e sz v' (l ++ ls).length (xs ++ news)) (hg : w.grownBy w' v.ownBlock)
    (hat : v'.ownBlock = v.ownBlock ∨ v'.ownBlock = some w.heap.size) (hn : Cells (C w (fun b => S b ∧ b < w.heap.size ∧ v.ownBlock ≠ some b)) sz news ls)
    (hC : ∀ S' T' c x, C w S' c x → (∀ b, S' b → T' b) → Same S' w w' → C w' T' c x) : OwnL w' base e S sz C v' (l ++ ls) := by
  refine ⟨xs ++ news, hown, (hcell.append hn).mono fun c x hc => hC _ _ c x hc ?_ ?_⟩
  · rintro b ⟨hb, hl, hne⟩
    refine ⟨hb, Nat.lt_of_lt_of_le hl hg.size, ?_⟩
    rcases hat with e | e <;> rw [e]
    · exact hne
    · intro h'
      injection h' with h'
      omega
  · rintro b ⟨hb, hl, hne⟩
    exact hg.block b hl (fun e => hne e.symm)
end

/-! ### A row of numbers that the call has made -/
def Arr (w : World) (b : Nat) (e : TypeId) (l : List Int) : Prop := w.rowIs b e l.length (fun j => .int .i64 (l.getD j 0))
section
variable {w w' : World} {b : Nat} {e : TypeId} {l : List Int}
theorem Arr.made (w : World) (n : Nat) (e : TypeId) : Arr (w.alloc (.cells (madeCells #[.int .i64 0] n) e)) w.heap.size e (List.replicate n 0) := by
  unfold Arr
  rw [List.length_replicate]
  refine (World.rowIs_made w (.int .i64 0) n e).congr fun i hi => ?_
  simp [List.getD_eq_getElem?_getD, hi]
theorem Arr.set (h : Arr w b e l) {i : Nat} (hi : i < l.length) (x : Int) : Arr (w.setCell ⟨b, i, none⟩ (.int .i64 x)) b e (l.set i x) := by
  unfold Arr at *
  rw [List.length_set]
  refine (h.set i _).congr fun j hj => ?_
  by_cases e : j = i
  · subst e
    simp [hi]
  · simp [e, List.getElem?_set_ne (Ne.symm e)]
theorem Arr.setOther (h : Arr w b e l) {a : Addr} (ha : b ≠ a.block) (v : Value) : Arr (w.setCell a v) b e l := World.rowIs.setOther h ha v
theorem Arr.of_block (h : Arr w b e l) (k : w'.heap[b]? = w.heap[b]?) : Arr w' b e l := World.rowIs.of_block h k
theorem Arr.alloc (h : Arr w b e l) (o : Obj) : Arr (w.alloc o) b e l := World.rowIs.alloc h o
theorem Arr.drew (h : Arr w b e l) : Arr w.drew b e l := h
theorem Arr.lt (h : Arr w b e l) : b < w.heap.size := World.rowIs.lt h
theorem Arr.below (h : Arr w b e l) {B : Nat} (k : Below B w w') (hb : b < B) : Arr w' b e l := h.of_block (k.block b hb)
theorem Arr.cell (h : Arr w b e l) {i : Nat} (hi : i < l.length) : w.cell? ⟨b, i, none⟩ = some (.int .i64 l[i]) := by
  have := World.rowIs.cell h hi
  rwa [List.getD_eq_getElem?_getD, List.getElem?_eq_getElem hi] at this
theorem Arr.frozen (h : Arr w b e l) (i : Nat) : w.frozen? ⟨b, i, none⟩ = false := World.rowIs.frozen h i
theorem cells_ints (l : List Int) {w : World} {S : Reg} : Cells (intC w S) 1 (l.map (Value.int .i64)) l := by
  induction l with
  | nil => exact .nil
  | cons x l ih => exact ⟨[.int .i64 x], l.map (Value.int .i64), rfl, rfl, rfl, ih⟩
theorem Arr.ints (h : Arr w b e l) {S : Reg} (hS : S b) {n cap : Nat} (hn : n = l.length) (hc : n ≤ cap) : Ints w S (.slice (some ⟨b, 0, none⟩) n cap) l := by
  subst hn
  refine ⟨l.map (Value.int .i64), ⟨by simp, _, cap, rfl, hc, fun _ => ⟨b, 0, rfl, hS, fun j u hu => ?_⟩⟩, cells_ints l⟩
  have hj : j < l.length := by
    have := (List.getElem?_eq_some_iff.1 hu).1
    simpa using this
  rw [Nat.zero_add, h.cell hj]
  rw [List.getElem?_map, List.getElem?_eq_getElem hj] at hu
  simpa using hu
end

/-! ### A block that is known whole -/
def Blk (w : World) (g : Nat) (t : TypeId) (cs : Array Value) : Prop := w.heap[g]? = some (.cells cs t (0, 0))
section
variable {w w' : World} {g : Nat} {t : TypeId} {cs : Array Value}
theorem Blk.lt (h : Blk w g t cs) : g < w.heap.size := lt_of_block h
theorem Blk.cell (h : Blk w g t cs) (i : Nat) : w.cell? ⟨g, i, none⟩ = cs[i]? := cell_of_row w g i cs t (0, 0) h
theorem Blk.frozen (h : Blk w g t cs) (i : Nat) : w.frozen? ⟨g, i, none⟩ = false := by
  unfold Blk at h
  simp [World.frozen?, h]
theorem Blk.new (w : World) (t : TypeId) (cs : Array Value) : Blk (w.alloc (.cells cs t)) w.heap.size t cs := heap_alloc_new w _
theorem Blk.drew (h : Blk w g t cs) : Blk w.drew g t cs := h
theorem Blk.alloc (h : Blk w g t cs) (o : Obj) : Blk (w.alloc o) g t cs := (Below.heap_alloc w o g h.lt).trans h
theorem Blk.set_ (h : Blk w g t cs) (i : Nat) (u : Value) : Blk (w.setCell ⟨g, i, none⟩ u) g t (cs.setIfInBounds i u) := by
  unfold Blk at h ⊢
  simp [World.setCell, Array.getElem?_modify, h]
theorem Blk.far (h : Blk w g t cs) {p : Addr} (hp : g ≠ p.block) (u : Value) : Blk (w.setCell p u) g t cs := (Below.heap_setCell w p u g hp).trans h
theorem Blk.same (h : Blk w g t cs) {S : Reg} (hs : Same S w w') (hg : S g) : Blk w' g t cs := (hs g hg).trans h
theorem Blk.below {B : Nat} (h : Blk w g t cs) (hb : Below B w w') (hg : g < B) : Blk w' g t cs := (hb.block g hg).trans h
theorem Blk.grown {row : Option Nat} (h : Blk w g t cs) (hb : w.grownBy w' row) (hg : some g ≠ row) : Blk w' g t cs := (hb.block g h.lt hg).trans h
end
end Go.Proofs.Ytcfleoaldoebhaa
