/-
  Part 5 of the texts under the law PlanKeeps: the layer of abstract values, walks and plain laws. Conditions: those that each theorem names.
-/
import Derived.WalkKit
import Derived.Lib.Hide
import Derived.Deep.OwnRows
import Derived.Deep.Draws
import Derived.Test.YtcfleoaldoebhaaChecked
import Derived.ProofKit
import Derived.OpenShut
import Derived.ShutString
import Derived.ChangeOld
import Derived.Below
import Derived.SizedLaws
import Derived.Deep.Slices
import Derived.Deep.Fields
import Derived.ChangeSame
import Derived.Test.YtcfleoaldoebhaaProg
import Derived.Test.YtcfleoaldoebhaaPlanKeepsP4
namespace Go.Proofs.Ytcfleoaldoebhaa
set_option linter.unusedSimpArgs false
set_option linter.unusedVariables false

structure Field where
  name : List UInt8
  bits : Int
  low : Int
structure Kind where
  name : List UInt8
  fields : List Field
structure Ent where
  n : Int
  gen : Int
structure Comp where
  kind : Int
  vals : List Int
structure Item where
  ent : Ent
  comps : List Comp
structure Wd where
  kinds : List Kind
  gens : List Int
  items : List Item
structure Evt where
  sys : Int
  ent : Ent
  val : Int
structure Ref where
  kind : Int
  field : Int
structure Arg where
  has : Bool
  n : Int
  ref : Ref
structure Op where
  act : Int
  to : Ref
  a : Arg
  b : Arg
structure Sys where
  name : List UInt8
  wth : List Int
  wout : List Int
  reads : List Int
  writes : List Int
  ops : List Op
  spawn : List Comp


instance : DecidableEq Field := fun a b => decidable_of_iff (a.name = b.name ∧ a.bits = b.bits ∧ a.low = b.low) (by cases a; cases b; simp)
instance : Inhabited Field := ⟨⟨default, default, default⟩⟩
instance : DecidableEq Kind := fun a b => decidable_of_iff (a.name = b.name ∧ a.fields = b.fields) (by cases a; cases b; simp)
instance : Inhabited Kind := ⟨⟨default, default⟩⟩
instance : DecidableEq Ent := fun a b => decidable_of_iff (a.n = b.n ∧ a.gen = b.gen) (by cases a; cases b; simp)
instance : Inhabited Ent := ⟨⟨default, default⟩⟩
instance : DecidableEq Comp := fun a b => decidable_of_iff (a.kind = b.kind ∧ a.vals = b.vals) (by cases a; cases b; simp)
instance : Inhabited Comp := ⟨⟨default, default⟩⟩
instance : DecidableEq Item := fun a b => decidable_of_iff (a.ent = b.ent ∧ a.comps = b.comps) (by cases a; cases b; simp)
instance : Inhabited Item := ⟨⟨default, default⟩⟩
instance : DecidableEq Wd := fun a b => decidable_of_iff (a.kinds = b.kinds ∧ a.gens = b.gens ∧ a.items = b.items) (by cases a; cases b; simp)
instance : Inhabited Wd := ⟨⟨default, default, default⟩⟩
instance : DecidableEq Evt := fun a b => decidable_of_iff (a.sys = b.sys ∧ a.ent = b.ent ∧ a.val = b.val) (by cases a; cases b; simp)
instance : Inhabited Evt := ⟨⟨default, default, default⟩⟩
instance : DecidableEq Ref := fun a b => decidable_of_iff (a.kind = b.kind ∧ a.field = b.field) (by cases a; cases b; simp)
instance : Inhabited Ref := ⟨⟨default, default⟩⟩
instance : DecidableEq Arg := fun a b => decidable_of_iff (a.has = b.has ∧ a.n = b.n ∧ a.ref = b.ref) (by cases a; cases b; simp)
instance : Inhabited Arg := ⟨⟨default, default, default⟩⟩
instance : DecidableEq Op := fun a b => decidable_of_iff (a.act = b.act ∧ a.to = b.to ∧ a.a = b.a ∧ a.b = b.b) (by cases a; cases b; simp)
instance : Inhabited Op := ⟨⟨default, default, default, default⟩⟩
instance : DecidableEq Sys := fun a b => decidable_of_iff (a.name = b.name ∧ a.wth = b.wth ∧ a.wout = b.wout ∧ a.reads = b.reads ∧ a.writes = b.writes ∧ a.ops = b.ops ∧ a.spawn = b.spawn) (by cases a; cases b; simp)
instance : Inhabited Sys := ⟨⟨default, default, default, default, default, default, default⟩⟩

/-- A number of Go's type int. -/
def I64 (x : Int) : Prop := -9223372036854775808 ≤ x ∧ x ≤ 9223372036854775807
end Go.Proofs.Ytcfleoaldoebhaa

namespace Go.Proofs.Ytcfleoaldoebhaa
set_option linter.unusedSimpArgs false
set_option linter.unusedVariables false
open Go.RowKit

abbrev Reg := Nat → Prop
/-- The blocks that the world holds. -/
def Lt (w : World) : Reg := fun b => b < w.heap.size
/-- The blocks from n on. -/
def Fr (n : Nat) (w : World) : Reg := fun b => n ≤ b ∧ b < w.heap.size
def Same (S : Reg) (w w' : World) : Prop := ∀ b, S b → w'.heap[b]? = w.heap[b]?

section
variable {w w' w'' : World} {S T : Reg}
theorem Same.refl (S : Reg) (w : World) : Same S w w := fun _ _ => rfl
theorem Same.trans (h : Same S w w') (k : Same S w' w'') : Same S w w'' := fun b hb => (k b hb).trans (h b hb)
theorem Same.mono (h : Same S w w') (hT : ∀ b, T b → S b) : Same T w w' := fun b hb => h b (hT b hb)
theorem Same.cell (h : Same S w w') {b : Nat} (hb : S b) (o : Nat) : w'.cell? ⟨b, o, none⟩ = w.cell? ⟨b, o, none⟩ := World.cell?_of_block (w := w) (h b hb)
theorem Same.below {B : Nat} (h : Below B w w') (hB : ∀ b, S b → b < B) : Same S w w' := fun b hb => h.block b (hB b hb)
theorem Same.lt (h : Below w.heap.size w w') : Same (Lt w) w w' := fun b hb => h.block b hb
theorem Same.grown {row : Option Nat} (h : w.grownBy w' row) (hS : ∀ b, S b → b < w.heap.size ∧ some b ≠ row) : Same S w w' := fun b hb => h.block b (hS b hb).1 (hS b hb).2
theorem Same.alloc (w : World) (o : Obj) (hS : ∀ b, S b → b < w.heap.size) : Same S w (w.alloc o) := fun b hb => Below.heap_alloc w o b (hS b hb)
theorem Same.setCell (w : World) {p : Addr} (u : Value) (hS : ∀ b, S b → b ≠ p.block) : Same S w (w.setCell p u) := fun b hb => Below.heap_setCell w p u b (hS b hb)

/-- What a step 'Below' gives the walk as rules: old cells, old marks. -/
theorem lvl {B : Nat} (hb : Below B w w') : (∀ b o, b < B → w'.cell? ⟨b, o, none⟩ = w.cell? ⟨b, o, none⟩) ∧ (∀ b o, b < B → w'.frozen? ⟨b, o, none⟩ = w.frozen? ⟨b, o, none⟩) :=
  ⟨fun b o h => hb.cell (p := ⟨b, o, none⟩) h, fun b o h => hb.frozen (p := ⟨b, o, none⟩) h⟩
/-- The same for every block of the first world. -/
theorem olderB {a c : World} (h : Below a.heap.size a c) : ∀ b, b < a.heap.size → b < c.heap.size ∧ b ≤ c.heap.size ∧ b < c.heap.size + 1 ∧ b < c.heap.size + 2 ∧ b < c.heap.size + 3 ∧ b < c.heap.size + 4 ∧ b ≠ c.heap.size ∧ c.heap.size ≠ b ∧ b ≠ c.heap.size + 1 ∧ c.heap.size + 1 ≠ b ∧ b ≠ c.heap.size + 2 ∧ c.heap.size + 2 ≠ b ∧ b ≠ c.heap.size + 3 ∧ c.heap.size + 3 ≠ b :=
  fun b hb => by have := h.size; omega
theorem belN {n : Nat} {a c : World} (h : Below n a c) (k : Nat) : Below n a (c.drewN k) := ⟨h.os, h.tape, h.output, h.size, h.block⟩
theorem bel {n m : Nat} {a b c : World} (h : Below n a b) (k : Below m b c) (hm : n ≤ m) : Below n a c := h.trans (k.mono hm)
theorem bel0 {n : Nat} {a b c : World} (h : Below n a b) (k : Below b.heap.size b c) (hm : n ≤ b.heap.size) : Below n a c := h.trans (k.mono hm)
theorem bel1 {n : Nat} {a b c : World} {o : Obj} (h : Below n a b) (k : Below (b.alloc o).heap.size (b.alloc o) c) (hm : n ≤ b.heap.size) : Below n a c := (h.alloc hm o).trans (k.mono (by simp; omega))
theorem bel2 {n : Nat} {a b c : World} {o o' : Obj} (h : Below n a b) (k : Below ((b.alloc o).alloc o').heap.size ((b.alloc o).alloc o') c) (hm : n ≤ b.heap.size) : Below n a c := ((h.alloc hm o).alloc (by simp; omega) o').trans (k.mono (by simp; omega))
/-- A block's number beside a later heap's size, in each form that the walk asks. -/
theorem older {b n : Nat} (h : b < n) : b < n ∧ b ≤ n ∧ b < n + 1 ∧ b < n + 2 ∧ b < n + 3 ∧ b < n + 4 ∧ b ≠ n ∧ n ≠ b ∧ b ≠ n + 1 ∧ n + 1 ≠ b ∧ b ≠ n + 2 ∧ n + 2 ≠ b ∧ b ≠ n + 3 ∧ n + 3 ≠ b := by omega

/-- The slice value v holds n elements of sz cells each: the cells xs, in a block of S (none is asked of an empty one). -/
def Row (w : World) (S : Reg) (sz : Nat) (v : Value) (n : Nat) (xs : List Value) : Prop :=
  xs.length = n * sz ∧ ∃ A cap, v = .slice A n cap ∧ n ≤ cap ∧ (0 < n → ∃ b off, A = some ⟨b, off, none⟩ ∧ S b ∧ ∀ j u, xs[j]? = some u → w.cell? ⟨b, off + j, none⟩ = some u)

variable {sz n : Nat} {v : Value} {xs : List Value}
theorem Row.to (h : Row w S sz v n xs) (hST : ∀ b, S b → T b) (hs : Same S w w') : Row w' T sz v n xs := by
  obtain ⟨h1, A, cap, hv, hn, hr⟩ := h
  refine ⟨h1, A, cap, hv, hn, fun h0 => ?_⟩
  obtain ⟨b, off, hA, hb, hc⟩ := hr h0
  exact ⟨b, off, hA, hST b hb, fun j u hu => (hs.cell hb _).trans (hc j u hu)⟩
theorem Row.form (h : Row w S sz v n xs) : ∃ A cap, v = .slice A n cap ∧ n ≤ cap := by
  obtain ⟨_, A, cap, hv, hn, _⟩ := h
  exact ⟨A, cap, hv, hn⟩
theorem Row.nil (w : World) (S : Reg) (sz : Nat) : Row w S sz (.slice none 0 0) 0 [] := ⟨by simp, none, 0, rfl, Nat.le_refl _, fun h => absurd h (by omega)⟩
theorem Row.block {A : Option Addr} {cap : Nat} (h : Row w S sz (.slice A n cap) n xs) (hn : 0 < n) : ∃ b off, A = some ⟨b, off, none⟩ ∧ S b ∧ ∀ j u, xs[j]? = some u → w.cell? ⟨b, off + j, none⟩ = some u := by
  obtain ⟨_, A', cap', hv, _, hr⟩ := h
  injection hv with h1 h2 h3
  subst h1
  exact hr hn
theorem Row.of_own {base : Nat} {e : TypeId} (h : w.ownsRow base e sz v n xs) : Row w (fun b => base ≤ b ∧ b < w.heap.size ∧ v.ownBlock = some b) sz v n xs := by
  refine ⟨h.1, ?_⟩
  rcases h.2 with ⟨rfl, rfl⟩ | ⟨g, cap, cur, rfl, hb, hg, hn, hc, hs, ht⟩
  · exact ⟨none, 0, rfl, Nat.le_refl _, fun h => absurd h (by omega)⟩
  · refine ⟨_, cap, rfl, hn, fun _ => ⟨g, 0, rfl, ⟨hb, lt_of_block hg, rfl⟩, fun j u hu => ?_⟩⟩
    have := h.cells (g := g) rfl j u hu
    rwa [show (⟨g, 0, none⟩ : Addr).add j = ⟨g, 0 + j, none⟩ from by unfold Addr.add; split <;> simp_all] at this
end

/-- The cells xs are those of the data l, sz cells each. -/
def Cells {α : Type} (C : List Value → α → Prop) (sz : Nat) : List Value → List α → Prop
  | xs, [] => xs = []
  | xs, x :: l => ∃ c ys, xs = c ++ ys ∧ c.length = sz ∧ C c x ∧ Cells C sz ys l

section
variable {α : Type} {C C' : List Value → α → Prop} {sz : Nat} {xs ys : List Value} {l m : List α}
theorem Cells.nil : Cells C sz [] [] := rfl
theorem Cells.cons {c : List Value} {x : α} (h1 : c.length = sz) (h2 : C c x) (h3 : Cells C sz xs l) : Cells C sz (c ++ xs) (x :: l) := ⟨c, xs, rfl, h1, h2, h3⟩
theorem Cells.uncons {x : α} (h : Cells C sz xs (x :: l)) : ∃ c ys, xs = c ++ ys ∧ c.length = sz ∧ C c x ∧ Cells C sz ys l := h
theorem Cells.length (h : Cells C sz xs l) : xs.length = l.length * sz := by
  induction l generalizing xs with
  | nil => have : xs = [] := h; simp [this]
  | cons x l ih =>
    obtain ⟨c, ys, rfl, h1, _, h3⟩ := h
    simp [ih h3, h1, Nat.add_mul, Nat.add_comm]
theorem Cells.mono (h : Cells C sz xs l) (hC : ∀ c x, C c x → C' c x) : Cells C' sz xs l := by
  induction l generalizing xs with
  | nil => exact h
  | cons x l ih =>
    obtain ⟨c, ys, rfl, h1, h2, h3⟩ := h
    exact ⟨c, ys, rfl, h1, hC _ _ h2, ih h3⟩
theorem Cells.one {c : List Value} {x : α} (h1 : c.length = sz) (h : C c x) : Cells C sz c [x] := ⟨c, [], by simp, h1, h, rfl⟩
theorem Cells.append (h : Cells C sz xs l) (k : Cells C sz ys m) : Cells C sz (xs ++ ys) (l ++ m) := by
  induction l generalizing xs with
  | nil =>
    have : xs = [] := h
    subst this
    exact k
  | cons x l ih =>
    obtain ⟨c, zs, rfl, h1, h2, h3⟩ := h
    exact ⟨c, zs ++ ys, by simp, h1, h2, ih h3⟩
theorem Cells.split (l : List α) : ∀ {xs : List Value}, Cells C sz xs (l ++ m) → ∃ ys zs, xs = ys ++ zs ∧ Cells C sz ys l ∧ Cells C sz zs m := by
  induction l with
  | nil => intro xs h; exact ⟨[], xs, rfl, rfl, h⟩
  | cons x l ih =>
    intro xs h
    obtain ⟨c, ys, rfl, h1, h2, h3⟩ := Cells.uncons (l := l ++ m) h
    obtain ⟨y1, y2, rfl, h4, h5⟩ := ih h3
    exact ⟨c ++ y1, y2, by simp, .cons h1 h2 h4, h5⟩
theorem Cells.take (h : Cells C sz xs l) (k : Nat) : Cells C sz (xs.take (k * sz)) (l.take k) := by
  have h' : Cells C sz xs (l.take k ++ l.drop k) := by rwa [List.take_append_drop]
  obtain ⟨ys, zs, rfl, h1, h2⟩ := Cells.split _ h'
  rcases Nat.lt_or_ge k l.length with hk | hk
  · have := h1.length
    rw [List.length_take, Nat.min_eq_left (by omega)] at this
    rwa [List.take_append_of_le_length (by omega), List.take_of_length_le (by omega)]
  · have e := h2.length
    rw [List.length_drop, Nat.sub_eq_zero_of_le hk, Nat.zero_mul] at e
    have : zs = [] := List.eq_nil_of_length_eq_zero e
    subst this
    have := h1.length
    rw [List.length_take, Nat.min_eq_right hk] at this
    rw [List.append_nil, List.take_of_length_le (by rw [this]; exact Nat.mul_le_mul_right _ hk)]
    exact h1
theorem Cells.drop (h : Cells C sz xs l) (k : Nat) : Cells C sz (xs.drop (k * sz)) (l.drop k) := by
  have h' : Cells C sz xs (l.take k ++ l.drop k) := by rwa [List.take_append_drop]
  obtain ⟨ys, zs, rfl, h1, h2⟩ := Cells.split _ h'
  rcases Nat.lt_or_ge k l.length with hk | hk
  · have := h1.length
    rw [List.length_take, Nat.min_eq_left (by omega)] at this
    rw [List.drop_append_of_le_length (by omega), List.drop_of_length_le (by omega)]
    simpa using h2
  · have e := h2.length
    rw [List.length_drop, Nat.sub_eq_zero_of_le hk, Nat.zero_mul] at e
    have : zs = [] := List.eq_nil_of_length_eq_zero e
    subst this
    have := h1.length
    rw [List.length_take, Nat.min_eq_right hk] at this
    rw [List.append_nil, List.drop_of_length_le (by rw [this]; exact Nat.mul_le_mul_right _ hk)]
    exact h2
theorem Cells.get (h : Cells C sz xs l) {i : Nat} (hi : i < l.length) : ∃ c, C c l[i] ∧ c.length = sz ∧ ∀ j u, c[j]? = some u → xs[i * sz + j]? = some u := by
  have hd := h.drop i
  rw [List.drop_eq_getElem_cons hi] at hd
  obtain ⟨c, ys, e, h1, h2, h3⟩ := Cells.uncons hd
  refine ⟨c, h2, h1, fun j u hu => ?_⟩
  rw [← List.getElem?_drop, e, List.getElem?_append_left (List.getElem?_eq_some_iff.1 hu).1]
  exact hu
end

/-- The slice value v reads as the list l, each element by C, all in blocks of S. -/
def Sl {α : Type} (w : World) (S : Reg) (sz : Nat) (C : World → Reg → List Value → α → Prop) (v : Value) (l : List α) : Prop :=
  ∃ xs, Row w S sz v l.length xs ∧ Cells (C w S) sz xs l

section
variable {α : Type} {w w' : World} {S T : Reg} {sz : Nat} {C : World → Reg → List Value → α → Prop} {v : Value} {l : List α}
theorem Sl.to (h : Sl w S sz C v l) (hC : ∀ c x, C w S c x → C w' T c x) (hST : ∀ b, S b → T b) (hs : Same S w w') : Sl w' T sz C v l := by
  obtain ⟨xs, h1, h2⟩ := h
  exact ⟨xs, h1.to hST hs, h2.mono hC⟩
theorem Sl.nil (w : World) (S : Reg) (sz : Nat) (C : World → Reg → List Value → α → Prop) : Sl w S sz C (.slice none 0 0) [] := ⟨[], Row.nil w S sz, .nil⟩
theorem Sl.form (h : Sl w S sz C v l) : ∃ A cap, v = .slice A l.length cap ∧ l.length ≤ cap := by
  obtain ⟨xs, h1, _⟩ := h
  exact h1.form
theorem Sl.len {A : Option Addr} {n cap : Nat} (h : Sl w S sz C (.slice A n cap) l) : n = l.length := by
  obtain ⟨A', c', e, _⟩ := h.form
  injection e
theorem Sl.cap {A : Option Addr} {n cap : Nat} (h : Sl w S sz C (.slice A n cap) l) : n ≤ cap := by
  obtain ⟨A', c', e, hc⟩ := h.form
  injection e with _ e1 e2
  omega
theorem Sl.take {A : Option Addr} {n cap k : Nat} (h : Sl w S sz C (.slice A n cap) l) (hk : k ≤ n) : Sl w S sz C (.slice A k cap) (l.take k) := by
  have hc := h.cap
  obtain ⟨xs, h1, h2⟩ := h
  obtain ⟨A', c', e, _⟩ := h1.form
  injection e with e1 e2 e3
  subst e1 e2 e3
  have hl : (l.take k).length = k := by rw [List.length_take]; omega
  refine ⟨xs.take (k * sz), ⟨?_, A, cap, by rw [hl], by omega, fun h0 => ?_⟩, h2.take k⟩
  · rw [hl, List.length_take, h1.1]
    exact Nat.min_eq_left (Nat.mul_le_mul_right _ hk)
  · rw [hl] at h0
    obtain ⟨b, off, hA, hb, hcell⟩ := h1.block (by omega)
    refine ⟨b, off, hA, hb, fun j u hu => hcell j u ?_⟩
    rw [List.getElem?_take] at hu
    split at hu
    · exact hu
    · cases hu
theorem Sl.at {A : Option Addr} {n cap : Nat} (h : Sl w S sz C (.slice A n cap) l) {i : Nat} (hi : i < l.length) : ∃ b off c, A = some ⟨b, off, none⟩ ∧ S b ∧ C w S c l[i] ∧ c.length = sz ∧ ∀ j u, c[j]? = some u → w.cell? ⟨b, off + (i * sz + j), none⟩ = some u := by
  obtain ⟨xs, h1, h2⟩ := h
  obtain ⟨A', cap', hv, _⟩ := h1.form
  injection hv with e1 e2 e3
  subst e1 e2 e3
  obtain ⟨b, off, hA, hb, hc⟩ := h1.block (by omega)
  obtain ⟨c, hc1, hc2, hc3⟩ := h2.get hi
  exact ⟨b, off, c, hA, hb, hc1, hc2, fun j u hu => hc _ _ (hc3 j u hu)⟩
end

/-! ### The program's data in memory -/
abbrev strV (l : List UInt8) : Value := .string ⟨l.toArray⟩
abbrev i64V (x : Int) : Value := .int .i64 x

def intC (_ : World) (_ : Reg) (c : List Value) (x : Int) : Prop := c = [.int .i64 x]
def fieldC (_ : World) (_ : Reg) (c : List Value) (f : Field) : Prop := c = [strV f.name, .int .i64 f.bits, .int .i64 f.low]
def entC (_ : World) (_ : Reg) (c : List Value) (e : Ent) : Prop := c = [.int .i64 e.n, .int .i64 e.gen]
def evtC (_ : World) (_ : Reg) (c : List Value) (e : Evt) : Prop := c = [.int .i64 e.sys, .int .i64 e.ent.n, .int .i64 e.ent.gen, .int .i64 e.val]
abbrev Ints (w : World) (S : Reg) (v : Value) (l : List Int) : Prop := Sl w S 1 intC v l
abbrev Fields (w : World) (S : Reg) (v : Value) (l : List Field) : Prop := Sl w S 3 fieldC v l
abbrev Ents (w : World) (S : Reg) (v : Value) (l : List Ent) : Prop := Sl w S 2 entC v l
abbrev Evts (w : World) (S : Reg) (v : Value) (l : List Evt) : Prop := Sl w S 4 evtC v l
def kindC (w : World) (S : Reg) (c : List Value) (k : Kind) : Prop := ∃ vf, c = [strV k.name, vf] ∧ Fields w S vf k.fields
abbrev Kinds (w : World) (S : Reg) (v : Value) (l : List Kind) : Prop := Sl w S 2 kindC v l
def compC (w : World) (S : Reg) (c : List Value) (x : Comp) : Prop := ∃ v, c = [.int .i64 x.kind, v] ∧ Ints w S v x.vals
abbrev Comps (w : World) (S : Reg) (v : Value) (l : List Comp) : Prop := Sl w S 2 compC v l
def itemC (w : World) (S : Reg) (c : List Value) (x : Item) : Prop := ∃ v, c = [.int .i64 x.ent.n, .int .i64 x.ent.gen, v] ∧ Comps w S v x.comps
abbrev Items (w : World) (S : Reg) (v : Value) (l : List Item) : Prop := Sl w S 3 itemC v l
def wdC (w : World) (S : Reg) (c : List Value) (x : Wd) : Prop := ∃ vk vg vi, c = [vk, vg, vi] ∧ Kinds w S vk x.kinds ∧ Ints w S vg x.gens ∧ Items w S vi x.items
def refCells (r : Ref) : List Value := [.int .i64 r.kind, .int .i64 r.field]
def argCells (a : Arg) : List Value := [.bool a.has, .int .i64 a.n, .int .i64 a.ref.kind, .int .i64 a.ref.field]
def opC (_ : World) (_ : Reg) (c : List Value) (o : Op) : Prop := c = [.int .i64 o.act, .int .i64 o.to.kind, .int .i64 o.to.field, .bool o.a.has, .int .i64 o.a.n, .int .i64 o.a.ref.kind, .int .i64 o.a.ref.field, .bool o.b.has, .int .i64 o.b.n, .int .i64 o.b.ref.kind, .int .i64 o.b.ref.field]
abbrev Ops (w : World) (S : Reg) (v : Value) (l : List Op) : Prop := Sl w S 11 opC v l
def sysC (w : World) (S : Reg) (c : List Value) (x : Sys) : Prop := ∃ v1 v2 v3 v4 v5 v6, c = [strV x.name, v1, v2, v3, v4, v5, v6] ∧ Ints w S v1 x.wth ∧ Ints w S v2 x.wout ∧ Ints w S v3 x.reads ∧ Ints w S v4 x.writes ∧ Ops w S v5 x.ops ∧ Comps w S v6 x.spawn
abbrev Syss (w : World) (S : Reg) (v : Value) (l : List Sys) : Prop := Sl w S 7 sysC v l

section
variable {w w' : World} {S T : Reg} {v : Value}
theorem Ints.to {l : List Int} (h : Ints w S v l) (hST : ∀ b, S b → T b) (hs : Same S w w') : Ints w' T v l := Sl.to h (fun _ _ h => h) hST hs
theorem Fields.to {l : List Field} (h : Fields w S v l) (hST : ∀ b, S b → T b) (hs : Same S w w') : Fields w' T v l := Sl.to h (fun _ _ h => h) hST hs
theorem Ents.to {l : List Ent} (h : Ents w S v l) (hST : ∀ b, S b → T b) (hs : Same S w w') : Ents w' T v l := Sl.to h (fun _ _ h => h) hST hs
theorem Evts.to {l : List Evt} (h : Evts w S v l) (hST : ∀ b, S b → T b) (hs : Same S w w') : Evts w' T v l := Sl.to h (fun _ _ h => h) hST hs
theorem Ops.to {l : List Op} (h : Ops w S v l) (hST : ∀ b, S b → T b) (hs : Same S w w') : Ops w' T v l := Sl.to h (fun _ _ h => h) hST hs
theorem kindC.to {c : List Value} {x : Kind} (h : kindC w S c x) (hST : ∀ b, S b → T b) (hs : Same S w w') : kindC w' T c x := by
  obtain ⟨vf, e, h⟩ := h
  exact ⟨vf, e, Fields.to h hST hs⟩
theorem Kinds.to {l : List Kind} (h : Kinds w S v l) (hST : ∀ b, S b → T b) (hs : Same S w w') : Kinds w' T v l := Sl.to h (fun _ _ h => h.to hST hs) hST hs
theorem compC.to {c : List Value} {x : Comp} (h : compC w S c x) (hST : ∀ b, S b → T b) (hs : Same S w w') : compC w' T c x := by
  obtain ⟨v, e, h⟩ := h
  exact ⟨v, e, Ints.to h hST hs⟩
theorem Comps.to {l : List Comp} (h : Comps w S v l) (hST : ∀ b, S b → T b) (hs : Same S w w') : Comps w' T v l := Sl.to h (fun _ _ h => h.to hST hs) hST hs
theorem itemC.to {c : List Value} {x : Item} (h : itemC w S c x) (hST : ∀ b, S b → T b) (hs : Same S w w') : itemC w' T c x := by
  obtain ⟨v, e, h⟩ := h
  exact ⟨v, e, Comps.to h hST hs⟩
theorem Items.to {l : List Item} (h : Items w S v l) (hST : ∀ b, S b → T b) (hs : Same S w w') : Items w' T v l := Sl.to h (fun _ _ h => h.to hST hs) hST hs
theorem wdC.to {c : List Value} {x : Wd} (h : wdC w S c x) (hST : ∀ b, S b → T b) (hs : Same S w w') : wdC w' T c x := by
  obtain ⟨vk, vg, vi, e, h1, h2, h3⟩ := h
  exact ⟨vk, vg, vi, e, Kinds.to h1 hST hs, Ints.to h2 hST hs, Items.to h3 hST hs⟩
theorem sysC.to {c : List Value} {x : Sys} (h : sysC w S c x) (hST : ∀ b, S b → T b) (hs : Same S w w') : sysC w' T c x := by
  obtain ⟨v1, v2, v3, v4, v5, v6, e, h1, h2, h3, h4, h5, h6⟩ := h
  exact ⟨v1, v2, v3, v4, v5, v6, e, Ints.to h1 hST hs, Ints.to h2 hST hs, Ints.to h3 hST hs, Ints.to h4 hST hs, Ops.to h5 hST hs, Comps.to h6 hST hs⟩
theorem Syss.to {l : List Sys} (h : Syss w S v l) (hST : ∀ b, S b → T b) (hs : Same S w w') : Syss w' T v l := Sl.to h (fun _ _ h => h.to hST hs) hST hs

/-! what was readable stays readable while nothing old turns -/
theorem Ints.up {l : List Int} (h : Ints w (Lt w) v l) (hb : Below w.heap.size w w') : Ints w' (Lt w') v l := h.to (fun b hb' => Nat.lt_of_lt_of_le hb' hb.size) (Same.lt hb)
theorem Fields.up {l : List Field} (h : Fields w (Lt w) v l) (hb : Below w.heap.size w w') : Fields w' (Lt w') v l := h.to (fun b hb' => Nat.lt_of_lt_of_le hb' hb.size) (Same.lt hb)
theorem Ents.up {l : List Ent} (h : Ents w (Lt w) v l) (hb : Below w.heap.size w w') : Ents w' (Lt w') v l := h.to (fun b hb' => Nat.lt_of_lt_of_le hb' hb.size) (Same.lt hb)
theorem Evts.up {l : List Evt} (h : Evts w (Lt w) v l) (hb : Below w.heap.size w w') : Evts w' (Lt w') v l := h.to (fun b hb' => Nat.lt_of_lt_of_le hb' hb.size) (Same.lt hb)
theorem Ops.up {l : List Op} (h : Ops w (Lt w) v l) (hb : Below w.heap.size w w') : Ops w' (Lt w') v l := h.to (fun b hb' => Nat.lt_of_lt_of_le hb' hb.size) (Same.lt hb)
theorem Kinds.up {l : List Kind} (h : Kinds w (Lt w) v l) (hb : Below w.heap.size w w') : Kinds w' (Lt w') v l := h.to (fun b hb' => Nat.lt_of_lt_of_le hb' hb.size) (Same.lt hb)
theorem Comps.up {l : List Comp} (h : Comps w (Lt w) v l) (hb : Below w.heap.size w w') : Comps w' (Lt w') v l := h.to (fun b hb' => Nat.lt_of_lt_of_le hb' hb.size) (Same.lt hb)
theorem Items.up {l : List Item} (h : Items w (Lt w) v l) (hb : Below w.heap.size w w') : Items w' (Lt w') v l := h.to (fun b hb' => Nat.lt_of_lt_of_le hb' hb.size) (Same.lt hb)
theorem Syss.up {l : List Sys} (h : Syss w (Lt w) v l) (hb : Below w.heap.size w w') : Syss w' (Lt w') v l := h.to (fun b hb' => Nat.lt_of_lt_of_le hb' hb.size) (Same.lt hb)
theorem kindC.up {c : List Value} {x : Kind} (h : kindC w (Lt w) c x) (hb : Below w.heap.size w w') : kindC w' (Lt w') c x := h.to (fun b hb' => Nat.lt_of_lt_of_le hb' hb.size) (Same.lt hb)
theorem compC.up {c : List Value} {x : Comp} (h : compC w (Lt w) c x) (hb : Below w.heap.size w w') : compC w' (Lt w') c x := h.to (fun b hb' => Nat.lt_of_lt_of_le hb' hb.size) (Same.lt hb)
theorem itemC.up {c : List Value} {x : Item} (h : itemC w (Lt w) c x) (hb : Below w.heap.size w w') : itemC w' (Lt w') c x := h.to (fun b hb' => Nat.lt_of_lt_of_le hb' hb.size) (Same.lt hb)
theorem wdC.up {c : List Value} {x : Wd} (h : wdC w (Lt w) c x) (hb : Below w.heap.size w w') : wdC w' (Lt w') c x := h.to (fun b hb' => Nat.lt_of_lt_of_le hb' hb.size) (Same.lt hb)
theorem sysC.up {c : List Value} {x : Sys} (h : sysC w (Lt w) c x) (hb : Below w.heap.size w w') : sysC w' (Lt w') c x := h.to (fun b hb' => Nat.lt_of_lt_of_le hb' hb.size) (Same.lt hb)

/-! one element, its cells written out, at the addresses that the walk computes -/
variable {A : Option Addr} {n cap i : Nat}
theorem Ints.at {l : List Int} (h : Ints w S (.slice A n cap) l) (hi : i < l.length) : ∃ b off, A = some ⟨b, off, none⟩ ∧ S b ∧ w.cell? ⟨b, off + i, none⟩ = some (.int .i64 l[i]) := by
  obtain ⟨b, off, c, hA, hb, hc, _, hj⟩ := Sl.at h hi
  subst hc
  have h0 := hj 0 _ rfl
  simp only [Nat.mul_one, Nat.add_zero] at h0
  exact ⟨b, off, hA, hb, h0⟩
theorem Fields.at {l : List Field} (h : Fields w S (.slice A n cap) l) (hi : i < l.length) : ∃ b off, A = some ⟨b, off, none⟩ ∧ S b ∧ w.cell? ⟨b, off + i * 3, none⟩ = some (strV l[i].name) ∧ w.cell? ⟨b, off + i * 3 + 1, none⟩ = some (.int .i64 l[i].bits) ∧ w.cell? ⟨b, off + i * 3 + 2, none⟩ = some (.int .i64 l[i].low) := by
  obtain ⟨b, off, c, hA, hb, hc, _, hj⟩ := Sl.at h hi
  subst hc
  exact ⟨b, off, hA, hb, hj 0 _ rfl, hj 1 _ rfl, hj 2 _ rfl⟩
theorem Ents.at {l : List Ent} (h : Ents w S (.slice A n cap) l) (hi : i < l.length) : ∃ b off, A = some ⟨b, off, none⟩ ∧ S b ∧ w.cell? ⟨b, off + i * 2, none⟩ = some (.int .i64 l[i].n) ∧ w.cell? ⟨b, off + i * 2 + 1, none⟩ = some (.int .i64 l[i].gen) := by
  obtain ⟨b, off, c, hA, hb, hc, _, hj⟩ := Sl.at h hi
  subst hc
  exact ⟨b, off, hA, hb, hj 0 _ rfl, hj 1 _ rfl⟩
theorem Evts.at {l : List Evt} (h : Evts w S (.slice A n cap) l) (hi : i < l.length) : ∃ b off, A = some ⟨b, off, none⟩ ∧ S b ∧ w.cell? ⟨b, off + i * 4, none⟩ = some (.int .i64 l[i].sys) ∧ w.cell? ⟨b, off + i * 4 + 1, none⟩ = some (.int .i64 l[i].ent.n) ∧ w.cell? ⟨b, off + i * 4 + 2, none⟩ = some (.int .i64 l[i].ent.gen) ∧ w.cell? ⟨b, off + i * 4 + 3, none⟩ = some (.int .i64 l[i].val) := by
  obtain ⟨b, off, c, hA, hb, hc, _, hj⟩ := Sl.at h hi
  subst hc
  exact ⟨b, off, hA, hb, hj 0 _ rfl, hj 1 _ rfl, hj 2 _ rfl, hj 3 _ rfl⟩
theorem Kinds.at {l : List Kind} (h : Kinds w S (.slice A n cap) l) (hi : i < l.length) : ∃ b off B m, A = some ⟨b, off, none⟩ ∧ S b ∧ w.cell? ⟨b, off + i * 2, none⟩ = some (strV l[i].name) ∧ w.cell? ⟨b, off + i * 2 + 1, none⟩ = some (.slice B l[i].fields.length m) ∧ Fields w S (.slice B l[i].fields.length m) l[i].fields := by
  obtain ⟨b, off, c, hA, hb, ⟨vf, rfl, hf⟩, _, hj⟩ := Sl.at h hi
  obtain ⟨B, m, rfl, _⟩ := hf.form
  exact ⟨b, off, B, m, hA, hb, hj 0 _ rfl, hj 1 _ rfl, hf⟩
theorem Comps.at {l : List Comp} (h : Comps w S (.slice A n cap) l) (hi : i < l.length) : ∃ b off B m, A = some ⟨b, off, none⟩ ∧ S b ∧ w.cell? ⟨b, off + i * 2, none⟩ = some (.int .i64 l[i].kind) ∧ w.cell? ⟨b, off + i * 2 + 1, none⟩ = some (.slice B l[i].vals.length m) ∧ Ints w S (.slice B l[i].vals.length m) l[i].vals := by
  obtain ⟨b, off, c, hA, hb, ⟨vf, rfl, hf⟩, _, hj⟩ := Sl.at h hi
  obtain ⟨B, m, rfl, _⟩ := hf.form
  exact ⟨b, off, B, m, hA, hb, hj 0 _ rfl, hj 1 _ rfl, hf⟩
theorem Items.at {l : List Item} (h : Items w S (.slice A n cap) l) (hi : i < l.length) : ∃ b off B m, A = some ⟨b, off, none⟩ ∧ S b ∧ w.cell? ⟨b, off + i * 3, none⟩ = some (.int .i64 l[i].ent.n) ∧ w.cell? ⟨b, off + i * 3 + 1, none⟩ = some (.int .i64 l[i].ent.gen) ∧ w.cell? ⟨b, off + i * 3 + 2, none⟩ = some (.slice B l[i].comps.length m) ∧ Comps w S (.slice B l[i].comps.length m) l[i].comps := by
  obtain ⟨b, off, c, hA, hb, ⟨vf, rfl, hf⟩, _, hj⟩ := Sl.at h hi
  obtain ⟨B, m, rfl, _⟩ := hf.form
  exact ⟨b, off, B, m, hA, hb, hj 0 _ rfl, hj 1 _ rfl, hj 2 _ rfl, hf⟩
end

/-! ### Lists that the call builds by append -/
/-- The call's own row v (elements of type e) holds the list l; what its elements lead to lies in blocks of S other than the row's own. -/
def OwnL {α : Type} (w : World) (base : Nat) (e : TypeId) (S : Reg) (sz : Nat) (C : World → Reg → List Value → α → Prop) (v : Value) (l : List α) : Prop :=
  ∃ xs, w.ownsRow base e sz v l.length xs ∧ Cells (C w (fun b => S b ∧ b < w.heap.size ∧ v.ownBlock ≠ some b)) sz xs l

section
variable {α : Type} {w w' : World} {base : Nat} {e : TypeId} {S T : Reg} {sz : Nat} {C : World → Reg → List Value → α → Prop} {v : Value} {l : List α}
theorem OwnL.nil (w : World) (base : Nat) (e : TypeId) (S : Reg) (sz : Nat) (C : World → Reg → List Value → α → Prop) : OwnL w base e S sz C (.slice none 0 0) ([] : List α) :=
  ⟨[], World.ownsRow_nil w base e sz, .nil⟩
theorem OwnL.sl (h : OwnL w base e S sz C v l) (hC : ∀ S' T' c x, C w S' c x → (∀ b, S' b → T' b) → C w T' c x) (hS : ∀ b, S b → T b) (hb : ∀ b, base ≤ b → b < w.heap.size → T b) : Sl w T sz C v l := by
  obtain ⟨xs, h1, h2⟩ := h
  exact ⟨xs, (Row.of_own h1).to (fun b hh => hb b hh.1 hh.2.1) (Same.refl _ _), h2.mono fun c x hc => hC _ _ c x hc (fun b hh => hS b hh.1)⟩
theorem OwnL.form (h : OwnL w base e S sz C v l) : ∃ A cap, v = .slice A l.length cap ∧ l.length ≤ cap := by
  obtain ⟨xs, h1, _⟩ := h
  exact (Row.of_own h1).form
/-- Other blocks turn, new ones come. -/
theorem OwnL.keep {row : Option Nat} (h : OwnL w base e S sz C v l) (hg : w.grownBy w' row) (hne : v.ownBlock = none ∨ v.ownBlock ≠ row) (hC : ∀ S' T' c x, C w S' c x → (∀ b, S' b → T' b) → Same S' w w' → C w' T' c x) (hS : ∀ b, S b → b < w.heap.size → T b) (hr : ∀ b, S b → some b ≠ row) : OwnL w' base e T sz C v l := by
  obtain ⟨xs, h1, h2⟩ := h
  refine ⟨xs, h1.kept hg hne, h2.mono fun c x hc => hC _ _ c x hc ?_ ?_⟩
  · rintro b ⟨hb, hl, hn⟩
    exact ⟨hS b hb hl, Nat.lt_of_lt_of_le hl hg.size, hn⟩
  · rintro b ⟨hb, hl, _⟩
    exact hg.block b hl (hr b hb)
/-- What an append leaves. -/
theorem OwnL.app {v' : Value} {news : List Value} {ls : List α} {xs : List Value} (hcell : Cells (C w (fun b => S b ∧ b < w.heap.size ∧ v.ownBlock ≠ some b)) sz xs l) (hown : w'.ownsRow base e sz v' (l ++ ls).length (xs ++ news)) (hg : w.grownBy w' v.ownBlock)
    (hat : v'.ownBlock = v.ownBlock ∨ v'.ownBlock = some w.heap.size) (hn : Cells (C w (fun b => S b ∧ b < w.heap.size ∧ v.ownBlock ≠ some b)) sz news ls)
    (hC : ∀ S' T' c x, C w S' c x → (∀ b, S' b → T' b) → Same S' w w' → C w' T' c x) : OwnL w' base e S sz C v' (l ++ ls) := by
  refine ⟨xs ++ news, hown, (hcell.append hn).mono fun c x hc => hC _ _ c x hc ?_ ?_⟩
  · rintro b ⟨hb, hl, hne⟩
    refine ⟨hb, Nat.lt_of_lt_of_le hl hg.size, ?_⟩
    rcases hat with e | e <;> rw [e]
    · exact hne
    · intro h'
      injection h' with h'
      omega
  · rintro b ⟨hb, hl, hne⟩
    exact hg.block b hl (fun e => hne e.symm)
end

/-! ### A row of numbers that the call has made -/
def Arr (w : World) (b : Nat) (e : TypeId) (l : List Int) : Prop := w.rowIs b e l.length (fun j => .int .i64 (l.getD j 0))
section
variable {w w' : World} {b : Nat} {e : TypeId} {l : List Int}
theorem Arr.made (w : World) (n : Nat) (e : TypeId) : Arr (w.alloc (.cells (madeCells #[.int .i64 0] n) e)) w.heap.size e (List.replicate n 0) := by
  unfold Arr
  rw [List.length_replicate]
  refine (World.rowIs_made w (.int .i64 0) n e).congr fun i hi => ?_
  simp [List.getD_eq_getElem?_getD, hi]
theorem Arr.set (h : Arr w b e l) {i : Nat} (hi : i < l.length) (x : Int) : Arr (w.setCell ⟨b, i, none⟩ (.int .i64 x)) b e (l.set i x) := by
  unfold Arr at *
  rw [List.length_set]
  refine (h.set i _).congr fun j hj => ?_
  by_cases e : j = i
  · subst e
    simp [hi]
  · simp [e, List.getElem?_set_ne (Ne.symm e)]
theorem Arr.setOther (h : Arr w b e l) {a : Addr} (ha : b ≠ a.block) (v : Value) : Arr (w.setCell a v) b e l := World.rowIs.setOther h ha v
theorem Arr.of_block (h : Arr w b e l) (k : w'.heap[b]? = w.heap[b]?) : Arr w' b e l := World.rowIs.of_block h k
theorem Arr.alloc (h : Arr w b e l) (o : Obj) : Arr (w.alloc o) b e l := World.rowIs.alloc h o
theorem Arr.drew (h : Arr w b e l) : Arr w.drew b e l := h
theorem Arr.lt (h : Arr w b e l) : b < w.heap.size := World.rowIs.lt h
theorem Arr.below (h : Arr w b e l) {B : Nat} (k : Below B w w') (hb : b < B) : Arr w' b e l := h.of_block (k.block b hb)
theorem Arr.cell (h : Arr w b e l) {i : Nat} (hi : i < l.length) : w.cell? ⟨b, i, none⟩ = some (.int .i64 l[i]) := by
  have := World.rowIs.cell h hi
  rwa [List.getD_eq_getElem?_getD, List.getElem?_eq_getElem hi] at this
theorem Arr.frozen (h : Arr w b e l) (i : Nat) : w.frozen? ⟨b, i, none⟩ = false := World.rowIs.frozen h i
theorem cells_ints (l : List Int) {w : World} {S : Reg} : Cells (intC w S) 1 (l.map (Value.int .i64)) l := by
  induction l with
  | nil => exact .nil
  | cons x l ih => exact ⟨[.int .i64 x], l.map (Value.int .i64), rfl, rfl, rfl, ih⟩
theorem Arr.ints (h : Arr w b e l) {S : Reg} (hS : S b) {n cap : Nat} (hn : n = l.length) (hc : n ≤ cap) : Ints w S (.slice (some ⟨b, 0, none⟩) n cap) l := by
  subst hn
  refine ⟨l.map (Value.int .i64), ⟨by simp, _, cap, rfl, hc, fun _ => ⟨b, 0, rfl, hS, fun j u hu => ?_⟩⟩, cells_ints l⟩
  have hj : j < l.length := by
    have := (List.getElem?_eq_some_iff.1 hu).1
    simpa using this
  rw [Nat.zero_add, h.cell hj]
  rw [List.getElem?_map, List.getElem?_eq_getElem hj] at hu
  simpa using hu
end

/-! ### A block that is known whole -/
def Blk (w : World) (g : Nat) (t : TypeId) (cs : Array Value) : Prop := w.heap[g]? = some (.cells cs t (0, 0))
section
variable {w w' : World} {g : Nat} {t : TypeId} {cs : Array Value}
theorem Blk.lt (h : Blk w g t cs) : g < w.heap.size := lt_of_block h
theorem Blk.cell (h : Blk w g t cs) (i : Nat) : w.cell? ⟨g, i, none⟩ = cs[i]? := cell_of_row w g i cs t (0, 0) h
theorem Blk.frozen (h : Blk w g t cs) (i : Nat) : w.frozen? ⟨g, i, none⟩ = false := by
  unfold Blk at h
  simp [World.frozen?, h]
theorem Blk.new (w : World) (t : TypeId) (cs : Array Value) : Blk (w.alloc (.cells cs t)) w.heap.size t cs := heap_alloc_new w _
theorem Blk.drew (h : Blk w g t cs) : Blk w.drew g t cs := h
theorem Blk.alloc (h : Blk w g t cs) (o : Obj) : Blk (w.alloc o) g t cs := (Below.heap_alloc w o g h.lt).trans h
theorem Blk.set_ (h : Blk w g t cs) (i : Nat) (u : Value) : Blk (w.setCell ⟨g, i, none⟩ u) g t (cs.setIfInBounds i u) := by
  unfold Blk at h ⊢
  simp [World.setCell, Array.getElem?_modify, h]
theorem Blk.far (h : Blk w g t cs) {p : Addr} (hp : g ≠ p.block) (u : Value) : Blk (w.setCell p u) g t cs := (Below.heap_setCell w p u g hp).trans h
theorem Blk.same (h : Blk w g t cs) {S : Reg} (hs : Same S w w') (hg : S g) : Blk w' g t cs := (hs g hg).trans h
theorem Blk.below {B : Nat} (h : Blk w g t cs) (hb : Below B w w') (hg : g < B) : Blk w' g t cs := (hb.block g hg).trans h
theorem Blk.grown {row : Option Nat} (h : Blk w g t cs) (hb : w.grownBy w' row) (hg : some g ≠ row) : Blk w' g t cs := (hb.block g h.lt hg).trans h
end
end Go.Proofs.Ytcfleoaldoebhaa

namespace Go.Proofs.Ytcfleoaldoebhaa
set_option linter.unusedSimpArgs false
set_option linter.unusedVariables false
open Go.ChangeShapes Go.WideShapes Go.ChangeAt Go.RowKit Go.Deep

theorem i64_of_wf {x : Int} (h : (Lit.int .i64 x).wf = true) : I64 x := by
  have := h
  simp [Lit.wf, IntKind.min, IntKind.max, IntKind.signed, IntKind.bits] at this
  unfold I64
  omega

theorem flat_at {α : Type} {sz : Nat} {cs : α → List Value} {f : Nat → Option Value} (hcs : ∀ x, (cs x).length = sz) : ∀ (l : List α) (off : Nat), (∀ i (hi : i < l.length) j u, (cs l[i])[j]? = some u → f (off + (i * sz + j)) = some u) →
    ∀ j u, (l.flatMap cs)[j]? = some u → f (off + j) = some u := by
  intro l
  induction l with
  | nil => intro off _ j u h; simp at h
  | cons x l ih =>
    intro off h j u hj
    rw [List.flatMap_cons] at hj
    rcases Nat.lt_or_ge j sz with hlt | hge
    · rw [List.getElem?_append_left (by rw [hcs]; exact hlt)] at hj
      have := h 0 (by simp) j u hj
      simpa using this
    · rw [List.getElem?_append_right (by rw [hcs]; exact hge), hcs] at hj
      have := ih (off + sz) (fun i hi j u hu => by
        have := h (i + 1) (by simp; omega) j u hu
        rwa [Nat.add_mul, Nat.one_mul, show off + (i * sz + sz + j) = off + sz + (i * sz + j) by omega] at this) (j - sz) u hj
      rwa [show off + sz + (j - sz) = off + j by omega] at this
theorem cells_flat {α : Type} {sz : Nat} {cs : α → List Value} {C : List Value → α → Prop} (hcs : ∀ x, (cs x).length = sz) (hC : ∀ x, C (cs x) x) (l : List α) : Cells C sz (l.flatMap cs) l := by
  induction l with
  | nil => rfl
  | cons x l ih => exact ⟨cs x, l.flatMap cs, by rw [List.flatMap_cons], hcs x, hC x, ih⟩
theorem sl_of_cells {α : Type} {w : World} {sz : Nat} {C : World → Reg → List Value → α → Prop} {a : Addr} {n cap : Nat} {l : List α} {cs : α → List Value} (hn : n ≤ cap) (hl : l.length = n) (hsz : 0 < sz) (hcs : ∀ x, (cs x).length = sz) (hC : ∀ x, C w (Lt w) (cs x) x)
    (hcell : ∀ i (hi : i < l.length) j u, (cs l[i])[j]? = some u → w.cell? (a.add (i * sz + j)) = some u) : Sl w (Lt w) sz C (.slice (some a) n cap) l := by
  subst hl
  refine ⟨l.flatMap cs, ⟨?_, some a, cap, rfl, hn, fun h0 => ?_⟩, cells_flat hcs hC l⟩
  · have := (cells_flat (C := fun _ _ => True) hcs (fun _ => trivial) l).length
    exact this
  · obtain ⟨b, off, spot⟩ := a
    have h1 : ∃ u, (cs l[0])[0]? = some u := ⟨_, List.getElem?_eq_getElem (by rw [hcs]; exact hsz)⟩
    obtain ⟨u, hu⟩ := h1
    have h2 := hcell 0 h0 0 u hu
    have hspot : spot = none := by simpa [Addr.add] using World.cell?_spot h2
    subst hspot
    refine ⟨b, off, rfl, ?_, ?_⟩
    · rw [Go.WideShapes.add_plain] at h2
      unfold World.cell? at h2
      simp only at h2
      show b < w.heap.size
      rcases Nat.lt_or_ge b w.heap.size with h | h
      · exact h
      · rw [Array.getElem?_eq_none h] at h2
        cases h2
    · refine flat_at (f := fun k => w.cell? ⟨b, k, none⟩) hcs l off fun i hi j u hu => ?_
      have := hcell i hi j u hu
      rwa [Go.WideShapes.add_plain] at this

section
variable {H : Type} {enc : TypeId × Value → H} {w : World} {a : Option Addr} {len cap : Nat} {d : DataW H} {p : List MemPlace}
theorem ints_arg (h : DataW.Trod enc Try.prog w 0 (fun _ => true) true 35 (.slice a len cap) d p) :
    ∃ z : List Int, Ints w (Lt w) (.slice a len cap) z ∧ (z = [] ∨ ∃ elems spare, d = .slice elems spare ∧ z.length ≤ elems.length + spare.length) := by
  obtain ⟨fuel, hf⟩ := h
  rcases open_slice Try.underlying35 hf with ⟨hcs, _⟩ | ⟨x, l, c, m, n, D, Pl, hcs, hb, hl, hm, hmm, hx, hi⟩
  · simp [Value.cells] at hcs
    obtain ⟨rfl, rfl, rfl⟩ := hcs
    exact ⟨[], Sl.nil _ _ _ _, .inl rfl⟩
  · simp [Value.cells] at hcs
    obtain ⟨rfl, rfl, rfl⟩ := hcs
    have hlm : len ≤ m := by rw [hmm]; split <;> omega
    have hex : ∀ i, ∃ e : Int, i < len → ∀ j u, ([Value.int .i64 e])[j]? = some u → w.cell? (x.add (i * 1 + j)) = some u := by
      intro i
      by_cases hil : i < len
      · obtain ⟨cs', hc, ht⟩ := hi i (by omega)
        rw [show Try.prog.cellsOf 3 = 1 from by kernel_rfl] at hc
        obtain ⟨_, hcl, hat⟩ := World.cells?_some hc
        obtain ⟨k, rfl, _⟩ := DataW.trod_int Try.underlying3 ht
        refine ⟨k, fun _ j u hu => ?_⟩
        have hj : j = 0 := by
          have := (List.getElem?_eq_some_iff.1 hu).1
          simp at this
          omega
        subst hj
        have := hat 0 (by omega)
        rw [Go.Deep.add_add] at this
        rw [this, hu]
      · exact ⟨0, fun h => absurd h hil⟩
    obtain ⟨f, hf'⟩ := Classical.axiomOfChoice hex
    refine ⟨(List.range len).map f, sl_of_cells (cs := fun e => [Value.int .i64 e]) hl (by simp) (by omega) (fun _ => rfl) (fun _ => rfl) (fun i hi' j u hu => ?_), .inr ⟨_, _, (Prod.mk.inj hx).1, by simp⟩⟩
    simp only [List.length_map, List.length_range] at hi'
    exact hf' i hi' j u (by simpa using hu)
end
end Go.Proofs.Ytcfleoaldoebhaa

namespace Go.Proofs.Ytcfleoaldoebhaa
set_option linter.unusedVariables false

instance tAg1 : TAg Try.prog 1 false := ⟨by kernel_rfl⟩
instance tSize1 : TSize Try.prog 1 1 := ⟨by kernel_rfl⟩
instance tZe1 : TZe Try.prog 1 [.nilFunc] := ⟨by kernel_rfl⟩
instance tBy1 : TBy Try.prog 1 8 := ⟨by kernel_rfl⟩
instance tAg2 : TAg Try.prog 2 false := ⟨by kernel_rfl⟩
instance tSize2 : TSize Try.prog 2 1 := ⟨by kernel_rfl⟩
instance tZe2 : TZe Try.prog 2 [.int .i64 0] := ⟨by kernel_rfl⟩
instance tBy2 : TBy Try.prog 2 8 := ⟨by kernel_rfl⟩
instance tAg3 : TAg Try.prog 3 false := ⟨by kernel_rfl⟩
instance tSize3 : TSize Try.prog 3 1 := ⟨by kernel_rfl⟩
instance tZe3 : TZe Try.prog 3 [.int .i64 0] := ⟨by kernel_rfl⟩
instance tBy3 : TBy Try.prog 3 8 := ⟨by kernel_rfl⟩
instance tAg4 : TAg Try.prog 4 false := ⟨by kernel_rfl⟩
instance tSize4 : TSize Try.prog 4 1 := ⟨by kernel_rfl⟩
instance tZe4 : TZe Try.prog 4 [.bool false] := ⟨by kernel_rfl⟩
instance tBy4 : TBy Try.prog 4 1 := ⟨by kernel_rfl⟩
instance tAg5 : TAg Try.prog 5 false := ⟨by kernel_rfl⟩
instance tSize5 : TSize Try.prog 5 1 := ⟨by kernel_rfl⟩
instance tZe5 : TZe Try.prog 5 [.int .u8 0] := ⟨by kernel_rfl⟩
instance tBy5 : TBy Try.prog 5 1 := ⟨by kernel_rfl⟩
instance tAg9 : TAg Try.prog 9 false := ⟨by kernel_rfl⟩
instance tSize9 : TSize Try.prog 9 1 := ⟨by kernel_rfl⟩
instance tZe9 : TZe Try.prog 9 [.string ByteArray.empty] := ⟨by kernel_rfl⟩
instance tBy9 : TBy Try.prog 9 16 := ⟨by kernel_rfl⟩
instance tSg9 : TSg Try.prog 9  := ⟨by kernel_rfl⟩
instance tAg12 : TAg Try.prog 12 false := ⟨by kernel_rfl⟩
instance tSize12 : TSize Try.prog 12 1 := ⟨by kernel_rfl⟩
instance tZe12 : TZe Try.prog 12 [.int .u64 0] := ⟨by kernel_rfl⟩
instance tBy12 : TBy Try.prog 12 8 := ⟨by kernel_rfl⟩
instance tAg13 : TAg Try.prog 13 true := ⟨by kernel_rfl⟩
instance tSize13 : TSize Try.prog 13 2 := ⟨by kernel_rfl⟩
instance tZe13 : TZe Try.prog 13 [.string ByteArray.empty, .int .u64 0] := ⟨by kernel_rfl⟩
instance tBy13 : TBy Try.prog 13 24 := ⟨by kernel_rfl⟩
instance tFl13_0 : TFl Try.prog 13 0 0 9 := ⟨by kernel_rfl⟩
instance tFl13_1 : TFl Try.prog 13 1 1 12 := ⟨by kernel_rfl⟩
instance tSt13 : TSt Try.prog 13 [.string ByteArray.empty, .int .u64 0] [(0, 1), (1, 1)] := ⟨by kernel_rfl⟩
instance tAg21 : TAg Try.prog 21 false := ⟨by kernel_rfl⟩
instance tSize21 : TSize Try.prog 21 1 := ⟨by kernel_rfl⟩
instance tZe21 : TZe Try.prog 21 [.int .i32 0] := ⟨by kernel_rfl⟩
instance tBy21 : TBy Try.prog 21 4 := ⟨by kernel_rfl⟩
instance tAg22 : TAg Try.prog 22 false := ⟨by kernel_rfl⟩
instance tSize22 : TSize Try.prog 22 1 := ⟨by kernel_rfl⟩
instance tZe22 : TZe Try.prog 22 [.slice none 0 0] := ⟨by kernel_rfl⟩
instance tBy22 : TBy Try.prog 22 24 := ⟨by kernel_rfl⟩
instance tEl22 : TEl Try.prog 22 30 := ⟨by kernel_rfl⟩
instance tRo22 : TRo Try.prog 22 30 4 32 := ⟨by kernel_rfl⟩
instance tAg23 : TAg Try.prog 23 false := ⟨by kernel_rfl⟩
instance tSize23 : TSize Try.prog 23 1 := ⟨by kernel_rfl⟩
instance tZe23 : TZe Try.prog 23 [.pointer none] := ⟨by kernel_rfl⟩
instance tBy23 : TBy Try.prog 23 8 := ⟨by kernel_rfl⟩
instance tAg24 : TAg Try.prog 24 false := ⟨by kernel_rfl⟩
instance tSize24 : TSize Try.prog 24 1 := ⟨by kernel_rfl⟩
instance tZe24 : TZe Try.prog 24 [.nilFunc] := ⟨by kernel_rfl⟩
instance tBy24 : TBy Try.prog 24 8 := ⟨by kernel_rfl⟩
instance tAg25 : TAg Try.prog 25 false := ⟨by kernel_rfl⟩
instance tSize25 : TSize Try.prog 25 1 := ⟨by kernel_rfl⟩
instance tZe25 : TZe Try.prog 25 [.int .i64 0] := ⟨by kernel_rfl⟩
instance tBy25 : TBy Try.prog 25 8 := ⟨by kernel_rfl⟩
instance tAg26 : TAg Try.prog 26 false := ⟨by kernel_rfl⟩
instance tSize26 : TSize Try.prog 26 1 := ⟨by kernel_rfl⟩
instance tZe26 : TZe Try.prog 26 [.nilFunc] := ⟨by kernel_rfl⟩
instance tBy26 : TBy Try.prog 26 8 := ⟨by kernel_rfl⟩
instance tAg27 : TAg Try.prog 27 true := ⟨by kernel_rfl⟩
instance tSize27 : TSize Try.prog 27 2 := ⟨by kernel_rfl⟩
instance tZe27 : TZe Try.prog 27 [.int .i64 0, .int .i64 0] := ⟨by kernel_rfl⟩
instance tBy27 : TBy Try.prog 27 16 := ⟨by kernel_rfl⟩
instance tFl27_0 : TFl Try.prog 27 0 0 3 := ⟨by kernel_rfl⟩
instance tFl27_1 : TFl Try.prog 27 1 1 3 := ⟨by kernel_rfl⟩
instance tSt27 : TSt Try.prog 27 [.int .i64 0, .int .i64 0] [(0, 1), (1, 1)] := ⟨by kernel_rfl⟩
instance tAg28 : TAg Try.prog 28 true := ⟨by kernel_rfl⟩
instance tSize28 : TSize Try.prog 28 2 := ⟨by kernel_rfl⟩
instance tZe28 : TZe Try.prog 28 [.int .i64 0, .int .i64 0] := ⟨by kernel_rfl⟩
instance tBy28 : TBy Try.prog 28 16 := ⟨by kernel_rfl⟩
instance tFl28_0 : TFl Try.prog 28 0 0 3 := ⟨by kernel_rfl⟩
instance tFl28_1 : TFl Try.prog 28 1 1 3 := ⟨by kernel_rfl⟩
instance tSt28 : TSt Try.prog 28 [.int .i64 0, .int .i64 0] [(0, 1), (1, 1)] := ⟨by kernel_rfl⟩
instance tAg29 : TAg Try.prog 29 true := ⟨by kernel_rfl⟩
instance tSize29 : TSize Try.prog 29 4 := ⟨by kernel_rfl⟩
instance tZe29 : TZe Try.prog 29 [.int .i64 0, .int .i64 0, .int .i64 0, .int .i64 0] := ⟨by kernel_rfl⟩
instance tBy29 : TBy Try.prog 29 32 := ⟨by kernel_rfl⟩
instance tFl29_0 : TFl Try.prog 29 0 0 3 := ⟨by kernel_rfl⟩
instance tFl29_1 : TFl Try.prog 29 1 1 28 := ⟨by kernel_rfl⟩
instance tFl29_2 : TFl Try.prog 29 2 3 3 := ⟨by kernel_rfl⟩
instance tSt29 : TSt Try.prog 29 [.int .i64 0, .int .i64 0, .int .i64 0, .int .i64 0] [(0, 1), (1, 2), (3, 1)] := ⟨by kernel_rfl⟩
instance tAg30 : TAg Try.prog 30 true := ⟨by kernel_rfl⟩
instance tSize30 : TSize Try.prog 30 4 := ⟨by kernel_rfl⟩
instance tZe30 : TZe Try.prog 30 [.int .i64 0, .int .i64 0, .int .i64 0, .int .i64 0] := ⟨by kernel_rfl⟩
instance tBy30 : TBy Try.prog 30 32 := ⟨by kernel_rfl⟩
instance tFl30_0 : TFl Try.prog 30 0 0 3 := ⟨by kernel_rfl⟩
instance tFl30_1 : TFl Try.prog 30 1 1 28 := ⟨by kernel_rfl⟩
instance tFl30_2 : TFl Try.prog 30 2 3 3 := ⟨by kernel_rfl⟩
instance tSt30 : TSt Try.prog 30 [.int .i64 0, .int .i64 0, .int .i64 0, .int .i64 0] [(0, 1), (1, 2), (3, 1)] := ⟨by kernel_rfl⟩
instance tAg31 : TAg Try.prog 31 false := ⟨by kernel_rfl⟩
instance tSize31 : TSize Try.prog 31 1 := ⟨by kernel_rfl⟩
instance tZe31 : TZe Try.prog 31 [.nilFunc] := ⟨by kernel_rfl⟩
instance tBy31 : TBy Try.prog 31 8 := ⟨by kernel_rfl⟩
instance tAg32 : TAg Try.prog 32 false := ⟨by kernel_rfl⟩
instance tSize32 : TSize Try.prog 32 1 := ⟨by kernel_rfl⟩
instance tZe32 : TZe Try.prog 32 [.nilFunc] := ⟨by kernel_rfl⟩
instance tBy32 : TBy Try.prog 32 8 := ⟨by kernel_rfl⟩
instance tAg33 : TAg Try.prog 33 false := ⟨by kernel_rfl⟩
instance tSize33 : TSize Try.prog 33 1 := ⟨by kernel_rfl⟩
instance tZe33 : TZe Try.prog 33 [.nilFunc] := ⟨by kernel_rfl⟩
instance tBy33 : TBy Try.prog 33 8 := ⟨by kernel_rfl⟩
instance tAg34 : TAg Try.prog 34 false := ⟨by kernel_rfl⟩
instance tSize34 : TSize Try.prog 34 1 := ⟨by kernel_rfl⟩
instance tZe34 : TZe Try.prog 34 [.nilFunc] := ⟨by kernel_rfl⟩
instance tBy34 : TBy Try.prog 34 8 := ⟨by kernel_rfl⟩
instance tAg35 : TAg Try.prog 35 false := ⟨by kernel_rfl⟩
instance tSize35 : TSize Try.prog 35 1 := ⟨by kernel_rfl⟩
instance tZe35 : TZe Try.prog 35 [.slice none 0 0] := ⟨by kernel_rfl⟩
instance tBy35 : TBy Try.prog 35 24 := ⟨by kernel_rfl⟩
instance tEl35 : TEl Try.prog 35 3 := ⟨by kernel_rfl⟩
instance tRo35 : TRo Try.prog 35 3 1 8 := ⟨by kernel_rfl⟩
instance tAg36 : TAg Try.prog 36 false := ⟨by kernel_rfl⟩
instance tSize36 : TSize Try.prog 36 1 := ⟨by kernel_rfl⟩
instance tZe36 : TZe Try.prog 36 [.slice none 0 0] := ⟨by kernel_rfl⟩
instance tBy36 : TBy Try.prog 36 24 := ⟨by kernel_rfl⟩
instance tEl36 : TEl Try.prog 36 51 := ⟨by kernel_rfl⟩
instance tRo36 : TRo Try.prog 36 51 2 40 := ⟨by kernel_rfl⟩
instance tAg37 : TAg Try.prog 37 false := ⟨by kernel_rfl⟩
instance tSize37 : TSize Try.prog 37 1 := ⟨by kernel_rfl⟩
instance tZe37 : TZe Try.prog 37 [.slice none 0 0] := ⟨by kernel_rfl⟩
instance tBy37 : TBy Try.prog 37 24 := ⟨by kernel_rfl⟩
instance tEl37 : TEl Try.prog 37 98 := ⟨by kernel_rfl⟩
instance tRo37 : TRo Try.prog 37 98 3 40 := ⟨by kernel_rfl⟩
instance tAg38 : TAg Try.prog 38 true := ⟨by kernel_rfl⟩
instance tSize38 : TSize Try.prog 38 3 := ⟨by kernel_rfl⟩
instance tZe38 : TZe Try.prog 38 [.slice none 0 0, .slice none 0 0, .slice none 0 0] := ⟨by kernel_rfl⟩
instance tBy38 : TBy Try.prog 38 72 := ⟨by kernel_rfl⟩
instance tFl38_0 : TFl Try.prog 38 0 0 36 := ⟨by kernel_rfl⟩
instance tFl38_1 : TFl Try.prog 38 1 1 35 := ⟨by kernel_rfl⟩
instance tFl38_2 : TFl Try.prog 38 2 2 37 := ⟨by kernel_rfl⟩
instance tSt38 : TSt Try.prog 38 [.slice none 0 0, .slice none 0 0, .slice none 0 0] [(0, 1), (1, 1), (2, 1)] := ⟨by kernel_rfl⟩
instance tAg39 : TAg Try.prog 39 true := ⟨by kernel_rfl⟩
instance tSize39 : TSize Try.prog 39 3 := ⟨by kernel_rfl⟩
instance tZe39 : TZe Try.prog 39 [.slice none 0 0, .slice none 0 0, .slice none 0 0] := ⟨by kernel_rfl⟩
instance tBy39 : TBy Try.prog 39 72 := ⟨by kernel_rfl⟩
instance tFl39_0 : TFl Try.prog 39 0 0 36 := ⟨by kernel_rfl⟩
instance tFl39_1 : TFl Try.prog 39 1 1 35 := ⟨by kernel_rfl⟩
instance tFl39_2 : TFl Try.prog 39 2 2 37 := ⟨by kernel_rfl⟩
instance tSt39 : TSt Try.prog 39 [.slice none 0 0, .slice none 0 0, .slice none 0 0] [(0, 1), (1, 1), (2, 1)] := ⟨by kernel_rfl⟩
instance tAg40 : TAg Try.prog 40 false := ⟨by kernel_rfl⟩
instance tSize40 : TSize Try.prog 40 1 := ⟨by kernel_rfl⟩
instance tZe40 : TZe Try.prog 40 [.nilFunc] := ⟨by kernel_rfl⟩
instance tBy40 : TBy Try.prog 40 8 := ⟨by kernel_rfl⟩
instance tAg41 : TAg Try.prog 41 false := ⟨by kernel_rfl⟩
instance tSize41 : TSize Try.prog 41 1 := ⟨by kernel_rfl⟩
instance tZe41 : TZe Try.prog 41 [.nilFunc] := ⟨by kernel_rfl⟩
instance tBy41 : TBy Try.prog 41 8 := ⟨by kernel_rfl⟩
instance tAg42 : TAg Try.prog 42 false := ⟨by kernel_rfl⟩
instance tSize42 : TSize Try.prog 42 1 := ⟨by kernel_rfl⟩
instance tZe42 : TZe Try.prog 42 [.nilFunc] := ⟨by kernel_rfl⟩
instance tBy42 : TBy Try.prog 42 8 := ⟨by kernel_rfl⟩
instance tAg43 : TAg Try.prog 43 false := ⟨by kernel_rfl⟩
instance tSize43 : TSize Try.prog 43 1 := ⟨by kernel_rfl⟩
instance tZe43 : TZe Try.prog 43 [.nilFunc] := ⟨by kernel_rfl⟩
instance tBy43 : TBy Try.prog 43 8 := ⟨by kernel_rfl⟩
instance tAg44 : TAg Try.prog 44 false := ⟨by kernel_rfl⟩
instance tSize44 : TSize Try.prog 44 1 := ⟨by kernel_rfl⟩
instance tZe44 : TZe Try.prog 44 [.nilFunc] := ⟨by kernel_rfl⟩
instance tBy44 : TBy Try.prog 44 8 := ⟨by kernel_rfl⟩
instance tAg45 : TAg Try.prog 45 false := ⟨by kernel_rfl⟩
instance tSize45 : TSize Try.prog 45 1 := ⟨by kernel_rfl⟩
instance tZe45 : TZe Try.prog 45 [.nilFunc] := ⟨by kernel_rfl⟩
instance tBy45 : TBy Try.prog 45 8 := ⟨by kernel_rfl⟩
instance tAg46 : TAg Try.prog 46 false := ⟨by kernel_rfl⟩
instance tSize46 : TSize Try.prog 46 1 := ⟨by kernel_rfl⟩
instance tZe46 : TZe Try.prog 46 [.nilFunc] := ⟨by kernel_rfl⟩
instance tBy46 : TBy Try.prog 46 8 := ⟨by kernel_rfl⟩
instance tAg47 : TAg Try.prog 47 false := ⟨by kernel_rfl⟩
instance tSize47 : TSize Try.prog 47 1 := ⟨by kernel_rfl⟩
instance tZe47 : TZe Try.prog 47 [.nilFunc] := ⟨by kernel_rfl⟩
instance tBy47 : TBy Try.prog 47 8 := ⟨by kernel_rfl⟩
instance tAg48 : TAg Try.prog 48 false := ⟨by kernel_rfl⟩
instance tSize48 : TSize Try.prog 48 1 := ⟨by kernel_rfl⟩
instance tZe48 : TZe Try.prog 48 [.nilFunc] := ⟨by kernel_rfl⟩
instance tBy48 : TBy Try.prog 48 8 := ⟨by kernel_rfl⟩
instance tAg49 : TAg Try.prog 49 false := ⟨by kernel_rfl⟩
instance tSize49 : TSize Try.prog 49 1 := ⟨by kernel_rfl⟩
instance tZe49 : TZe Try.prog 49 [.slice none 0 0] := ⟨by kernel_rfl⟩
instance tBy49 : TBy Try.prog 49 24 := ⟨by kernel_rfl⟩
instance tEl49 : TEl Try.prog 49 62 := ⟨by kernel_rfl⟩
instance tRo49 : TRo Try.prog 49 62 3 32 := ⟨by kernel_rfl⟩
instance tAg50 : TAg Try.prog 50 true := ⟨by kernel_rfl⟩
instance tSize50 : TSize Try.prog 50 2 := ⟨by kernel_rfl⟩
instance tZe50 : TZe Try.prog 50 [.string ByteArray.empty, .slice none 0 0] := ⟨by kernel_rfl⟩
instance tBy50 : TBy Try.prog 50 40 := ⟨by kernel_rfl⟩
instance tFl50_0 : TFl Try.prog 50 0 0 9 := ⟨by kernel_rfl⟩
instance tFl50_1 : TFl Try.prog 50 1 1 49 := ⟨by kernel_rfl⟩
instance tSt50 : TSt Try.prog 50 [.string ByteArray.empty, .slice none 0 0] [(0, 1), (1, 1)] := ⟨by kernel_rfl⟩
instance tAg51 : TAg Try.prog 51 true := ⟨by kernel_rfl⟩
instance tSize51 : TSize Try.prog 51 2 := ⟨by kernel_rfl⟩
instance tZe51 : TZe Try.prog 51 [.string ByteArray.empty, .slice none 0 0] := ⟨by kernel_rfl⟩
instance tBy51 : TBy Try.prog 51 40 := ⟨by kernel_rfl⟩
instance tFl51_0 : TFl Try.prog 51 0 0 9 := ⟨by kernel_rfl⟩
instance tFl51_1 : TFl Try.prog 51 1 1 49 := ⟨by kernel_rfl⟩
instance tSt51 : TSt Try.prog 51 [.string ByteArray.empty, .slice none 0 0] [(0, 1), (1, 1)] := ⟨by kernel_rfl⟩
instance tAg52 : TAg Try.prog 52 false := ⟨by kernel_rfl⟩
instance tSize52 : TSize Try.prog 52 1 := ⟨by kernel_rfl⟩
instance tZe52 : TZe Try.prog 52 [.nilFunc] := ⟨by kernel_rfl⟩
instance tBy52 : TBy Try.prog 52 8 := ⟨by kernel_rfl⟩
instance tAg53 : TAg Try.prog 53 false := ⟨by kernel_rfl⟩
instance tSize53 : TSize Try.prog 53 1 := ⟨by kernel_rfl⟩
instance tZe53 : TZe Try.prog 53 [.nilFunc] := ⟨by kernel_rfl⟩
instance tBy53 : TBy Try.prog 53 8 := ⟨by kernel_rfl⟩
instance tAg55 : TAg Try.prog 55 false := ⟨by kernel_rfl⟩
instance tSize55 : TSize Try.prog 55 1 := ⟨by kernel_rfl⟩
instance tZe55 : TZe Try.prog 55 [.nilFunc] := ⟨by kernel_rfl⟩
instance tBy55 : TBy Try.prog 55 8 := ⟨by kernel_rfl⟩
instance tAg56 : TAg Try.prog 56 false := ⟨by kernel_rfl⟩
instance tSize56 : TSize Try.prog 56 1 := ⟨by kernel_rfl⟩
instance tZe56 : TZe Try.prog 56 [.nilFunc] := ⟨by kernel_rfl⟩
instance tBy56 : TBy Try.prog 56 8 := ⟨by kernel_rfl⟩
instance tAg57 : TAg Try.prog 57 true := ⟨by kernel_rfl⟩
instance tSize57 : TSize Try.prog 57 2 := ⟨by kernel_rfl⟩
instance tZe57 : TZe Try.prog 57 [.int .i64 0, .slice none 0 0] := ⟨by kernel_rfl⟩
instance tBy57 : TBy Try.prog 57 32 := ⟨by kernel_rfl⟩
instance tFl57_0 : TFl Try.prog 57 0 0 3 := ⟨by kernel_rfl⟩
instance tFl57_1 : TFl Try.prog 57 1 1 35 := ⟨by kernel_rfl⟩
instance tSt57 : TSt Try.prog 57 [.int .i64 0, .slice none 0 0] [(0, 1), (1, 1)] := ⟨by kernel_rfl⟩
instance tAg58 : TAg Try.prog 58 true := ⟨by kernel_rfl⟩
instance tSize58 : TSize Try.prog 58 2 := ⟨by kernel_rfl⟩
instance tZe58 : TZe Try.prog 58 [.int .i64 0, .slice none 0 0] := ⟨by kernel_rfl⟩
instance tBy58 : TBy Try.prog 58 32 := ⟨by kernel_rfl⟩
instance tFl58_0 : TFl Try.prog 58 0 0 3 := ⟨by kernel_rfl⟩
instance tFl58_1 : TFl Try.prog 58 1 1 35 := ⟨by kernel_rfl⟩
instance tSt58 : TSt Try.prog 58 [.int .i64 0, .slice none 0 0] [(0, 1), (1, 1)] := ⟨by kernel_rfl⟩
instance tAg59 : TAg Try.prog 59 false := ⟨by kernel_rfl⟩
instance tSize59 : TSize Try.prog 59 1 := ⟨by kernel_rfl⟩
instance tZe59 : TZe Try.prog 59 [.nilFunc] := ⟨by kernel_rfl⟩
instance tBy59 : TBy Try.prog 59 8 := ⟨by kernel_rfl⟩
instance tAg60 : TAg Try.prog 60 false := ⟨by kernel_rfl⟩
instance tSize60 : TSize Try.prog 60 1 := ⟨by kernel_rfl⟩
instance tZe60 : TZe Try.prog 60 [.nilFunc] := ⟨by kernel_rfl⟩
instance tBy60 : TBy Try.prog 60 8 := ⟨by kernel_rfl⟩
instance tAg61 : TAg Try.prog 61 true := ⟨by kernel_rfl⟩
instance tSize61 : TSize Try.prog 61 3 := ⟨by kernel_rfl⟩
instance tZe61 : TZe Try.prog 61 [.string ByteArray.empty, .int .i64 0, .int .i64 0] := ⟨by kernel_rfl⟩
instance tBy61 : TBy Try.prog 61 32 := ⟨by kernel_rfl⟩
instance tFl61_0 : TFl Try.prog 61 0 0 9 := ⟨by kernel_rfl⟩
instance tFl61_1 : TFl Try.prog 61 1 1 3 := ⟨by kernel_rfl⟩
instance tFl61_2 : TFl Try.prog 61 2 2 3 := ⟨by kernel_rfl⟩
instance tSt61 : TSt Try.prog 61 [.string ByteArray.empty, .int .i64 0, .int .i64 0] [(0, 1), (1, 1), (2, 1)] := ⟨by kernel_rfl⟩
instance tAg62 : TAg Try.prog 62 true := ⟨by kernel_rfl⟩
instance tSize62 : TSize Try.prog 62 3 := ⟨by kernel_rfl⟩
instance tZe62 : TZe Try.prog 62 [.string ByteArray.empty, .int .i64 0, .int .i64 0] := ⟨by kernel_rfl⟩
instance tBy62 : TBy Try.prog 62 32 := ⟨by kernel_rfl⟩
instance tFl62_0 : TFl Try.prog 62 0 0 9 := ⟨by kernel_rfl⟩
instance tFl62_1 : TFl Try.prog 62 1 1 3 := ⟨by kernel_rfl⟩
instance tFl62_2 : TFl Try.prog 62 2 2 3 := ⟨by kernel_rfl⟩
instance tSt62 : TSt Try.prog 62 [.string ByteArray.empty, .int .i64 0, .int .i64 0] [(0, 1), (1, 1), (2, 1)] := ⟨by kernel_rfl⟩
instance tAg63 : TAg Try.prog 63 false := ⟨by kernel_rfl⟩
instance tSize63 : TSize Try.prog 63 1 := ⟨by kernel_rfl⟩
instance tZe63 : TZe Try.prog 63 [.nilFunc] := ⟨by kernel_rfl⟩
instance tBy63 : TBy Try.prog 63 8 := ⟨by kernel_rfl⟩
instance tAg64 : TAg Try.prog 64 false := ⟨by kernel_rfl⟩
instance tSize64 : TSize Try.prog 64 1 := ⟨by kernel_rfl⟩
instance tZe64 : TZe Try.prog 64 [.nilFunc] := ⟨by kernel_rfl⟩
instance tBy64 : TBy Try.prog 64 8 := ⟨by kernel_rfl⟩
instance tAg65 : TAg Try.prog 65 false := ⟨by kernel_rfl⟩
instance tSize65 : TSize Try.prog 65 1 := ⟨by kernel_rfl⟩
instance tZe65 : TZe Try.prog 65 [.nilFunc] := ⟨by kernel_rfl⟩
instance tBy65 : TBy Try.prog 65 8 := ⟨by kernel_rfl⟩
instance tAg66 : TAg Try.prog 66 false := ⟨by kernel_rfl⟩
instance tSize66 : TSize Try.prog 66 1 := ⟨by kernel_rfl⟩
instance tZe66 : TZe Try.prog 66 [.slice none 0 0] := ⟨by kernel_rfl⟩
instance tBy66 : TBy Try.prog 66 24 := ⟨by kernel_rfl⟩
instance tEl66 : TEl Try.prog 66 72 := ⟨by kernel_rfl⟩
instance tRo66 : TRo Try.prog 66 72 7 160 := ⟨by kernel_rfl⟩
instance tAg67 : TAg Try.prog 67 false := ⟨by kernel_rfl⟩
instance tSize67 : TSize Try.prog 67 1 := ⟨by kernel_rfl⟩
instance tZe67 : TZe Try.prog 67 [.nilFunc] := ⟨by kernel_rfl⟩
instance tBy67 : TBy Try.prog 67 8 := ⟨by kernel_rfl⟩
instance tAg68 : TAg Try.prog 68 false := ⟨by kernel_rfl⟩
instance tSize68 : TSize Try.prog 68 1 := ⟨by kernel_rfl⟩
instance tZe68 : TZe Try.prog 68 [.nilFunc] := ⟨by kernel_rfl⟩
instance tBy68 : TBy Try.prog 68 8 := ⟨by kernel_rfl⟩
instance tAg69 : TAg Try.prog 69 false := ⟨by kernel_rfl⟩
instance tSize69 : TSize Try.prog 69 1 := ⟨by kernel_rfl⟩
instance tZe69 : TZe Try.prog 69 [.slice none 0 0] := ⟨by kernel_rfl⟩
instance tBy69 : TBy Try.prog 69 24 := ⟨by kernel_rfl⟩
instance tEl69 : TEl Try.prog 69 131 := ⟨by kernel_rfl⟩
instance tRo69 : TRo Try.prog 69 131 11 88 := ⟨by kernel_rfl⟩
instance tAg70 : TAg Try.prog 70 false := ⟨by kernel_rfl⟩
instance tSize70 : TSize Try.prog 70 1 := ⟨by kernel_rfl⟩
instance tZe70 : TZe Try.prog 70 [.slice none 0 0] := ⟨by kernel_rfl⟩
instance tBy70 : TBy Try.prog 70 24 := ⟨by kernel_rfl⟩
instance tEl70 : TEl Try.prog 70 58 := ⟨by kernel_rfl⟩
instance tRo70 : TRo Try.prog 70 58 2 32 := ⟨by kernel_rfl⟩
instance tAg71 : TAg Try.prog 71 true := ⟨by kernel_rfl⟩
instance tSize71 : TSize Try.prog 71 7 := ⟨by kernel_rfl⟩
instance tZe71 : TZe Try.prog 71 [.string ByteArray.empty, .slice none 0 0, .slice none 0 0, .slice none 0 0, .slice none 0 0, .slice none 0 0, .slice none 0 0] := ⟨by kernel_rfl⟩
instance tBy71 : TBy Try.prog 71 160 := ⟨by kernel_rfl⟩
instance tFl71_0 : TFl Try.prog 71 0 0 9 := ⟨by kernel_rfl⟩
instance tFl71_1 : TFl Try.prog 71 1 1 35 := ⟨by kernel_rfl⟩
instance tFl71_2 : TFl Try.prog 71 2 2 35 := ⟨by kernel_rfl⟩
instance tFl71_3 : TFl Try.prog 71 3 3 35 := ⟨by kernel_rfl⟩
instance tFl71_4 : TFl Try.prog 71 4 4 35 := ⟨by kernel_rfl⟩
instance tFl71_5 : TFl Try.prog 71 5 5 69 := ⟨by kernel_rfl⟩
instance tFl71_6 : TFl Try.prog 71 6 6 70 := ⟨by kernel_rfl⟩
instance tSt71 : TSt Try.prog 71 [.string ByteArray.empty, .slice none 0 0, .slice none 0 0, .slice none 0 0, .slice none 0 0, .slice none 0 0, .slice none 0 0] [(0, 1), (1, 1), (2, 1), (3, 1), (4, 1), (5, 1), (6, 1)] := ⟨by kernel_rfl⟩
instance tAg72 : TAg Try.prog 72 true := ⟨by kernel_rfl⟩
instance tSize72 : TSize Try.prog 72 7 := ⟨by kernel_rfl⟩
instance tZe72 : TZe Try.prog 72 [.string ByteArray.empty, .slice none 0 0, .slice none 0 0, .slice none 0 0, .slice none 0 0, .slice none 0 0, .slice none 0 0] := ⟨by kernel_rfl⟩
instance tBy72 : TBy Try.prog 72 160 := ⟨by kernel_rfl⟩
instance tFl72_0 : TFl Try.prog 72 0 0 9 := ⟨by kernel_rfl⟩
instance tFl72_1 : TFl Try.prog 72 1 1 35 := ⟨by kernel_rfl⟩
instance tFl72_2 : TFl Try.prog 72 2 2 35 := ⟨by kernel_rfl⟩
instance tFl72_3 : TFl Try.prog 72 3 3 35 := ⟨by kernel_rfl⟩
instance tFl72_4 : TFl Try.prog 72 4 4 35 := ⟨by kernel_rfl⟩
instance tFl72_5 : TFl Try.prog 72 5 5 69 := ⟨by kernel_rfl⟩
instance tFl72_6 : TFl Try.prog 72 6 6 70 := ⟨by kernel_rfl⟩
instance tSt72 : TSt Try.prog 72 [.string ByteArray.empty, .slice none 0 0, .slice none 0 0, .slice none 0 0, .slice none 0 0, .slice none 0 0, .slice none 0 0] [(0, 1), (1, 1), (2, 1), (3, 1), (4, 1), (5, 1), (6, 1)] := ⟨by kernel_rfl⟩
instance tAg73 : TAg Try.prog 73 false := ⟨by kernel_rfl⟩
instance tSize73 : TSize Try.prog 73 1 := ⟨by kernel_rfl⟩
instance tZe73 : TZe Try.prog 73 [.slice none 0 0] := ⟨by kernel_rfl⟩
instance tBy73 : TBy Try.prog 73 24 := ⟨by kernel_rfl⟩
instance tEl73 : TEl Try.prog 73 35 := ⟨by kernel_rfl⟩
instance tRo73 : TRo Try.prog 73 35 1 24 := ⟨by kernel_rfl⟩
instance tAg75 : TAg Try.prog 75 false := ⟨by kernel_rfl⟩
instance tSize75 : TSize Try.prog 75 1 := ⟨by kernel_rfl⟩
instance tZe75 : TZe Try.prog 75 [.nilFunc] := ⟨by kernel_rfl⟩
instance tBy75 : TBy Try.prog 75 8 := ⟨by kernel_rfl⟩
instance tAg76 : TAg Try.prog 76 false := ⟨by kernel_rfl⟩
instance tSize76 : TSize Try.prog 76 1 := ⟨by kernel_rfl⟩
instance tZe76 : TZe Try.prog 76 [.nilFunc] := ⟨by kernel_rfl⟩
instance tBy76 : TBy Try.prog 76 8 := ⟨by kernel_rfl⟩
instance tAg77 : TAg Try.prog 77 false := ⟨by kernel_rfl⟩
instance tSize77 : TSize Try.prog 77 1 := ⟨by kernel_rfl⟩
instance tZe77 : TZe Try.prog 77 [.nilFunc] := ⟨by kernel_rfl⟩
instance tBy77 : TBy Try.prog 77 8 := ⟨by kernel_rfl⟩
instance tAg78 : TAg Try.prog 78 false := ⟨by kernel_rfl⟩
instance tSize78 : TSize Try.prog 78 1 := ⟨by kernel_rfl⟩
instance tZe78 : TZe Try.prog 78 [.slice none 0 0] := ⟨by kernel_rfl⟩
instance tBy78 : TBy Try.prog 78 24 := ⟨by kernel_rfl⟩
instance tEl78 : TEl Try.prog 78 83 := ⟨by kernel_rfl⟩
instance tRo78 : TRo Try.prog 78 83 2 16 := ⟨by kernel_rfl⟩
instance tAg79 : TAg Try.prog 79 false := ⟨by kernel_rfl⟩
instance tSize79 : TSize Try.prog 79 1 := ⟨by kernel_rfl⟩
instance tZe79 : TZe Try.prog 79 [.nilFunc] := ⟨by kernel_rfl⟩
instance tBy79 : TBy Try.prog 79 8 := ⟨by kernel_rfl⟩
instance tAg80 : TAg Try.prog 80 true := ⟨by kernel_rfl⟩
instance tSize80 : TSize Try.prog 80 2 := ⟨by kernel_rfl⟩
instance tZe80 : TZe Try.prog 80 [.int .i64 0, .int .i64 0] := ⟨by kernel_rfl⟩
instance tBy80 : TBy Try.prog 80 16 := ⟨by kernel_rfl⟩
instance tFl80_0 : TFl Try.prog 80 0 0 3 := ⟨by kernel_rfl⟩
instance tFl80_1 : TFl Try.prog 80 1 1 3 := ⟨by kernel_rfl⟩
instance tSt80 : TSt Try.prog 80 [.int .i64 0, .int .i64 0] [(0, 1), (1, 1)] := ⟨by kernel_rfl⟩
instance tAg81 : TAg Try.prog 81 true := ⟨by kernel_rfl⟩
instance tSize81 : TSize Try.prog 81 2 := ⟨by kernel_rfl⟩
instance tZe81 : TZe Try.prog 81 [.int .i64 0, .int .i64 0] := ⟨by kernel_rfl⟩
instance tBy81 : TBy Try.prog 81 16 := ⟨by kernel_rfl⟩
instance tFl81_0 : TFl Try.prog 81 0 0 3 := ⟨by kernel_rfl⟩
instance tFl81_1 : TFl Try.prog 81 1 1 3 := ⟨by kernel_rfl⟩
instance tSt81 : TSt Try.prog 81 [.int .i64 0, .int .i64 0] [(0, 1), (1, 1)] := ⟨by kernel_rfl⟩
instance tAg82 : TAg Try.prog 82 true := ⟨by kernel_rfl⟩
instance tSize82 : TSize Try.prog 82 2 := ⟨by kernel_rfl⟩
instance tZe82 : TZe Try.prog 82 [.int .i64 0, .int .i64 0] := ⟨by kernel_rfl⟩
instance tBy82 : TBy Try.prog 82 16 := ⟨by kernel_rfl⟩
instance tFl82_0 : TFl Try.prog 82 0 0 3 := ⟨by kernel_rfl⟩
instance tFl82_1 : TFl Try.prog 82 1 1 3 := ⟨by kernel_rfl⟩
instance tSt82 : TSt Try.prog 82 [.int .i64 0, .int .i64 0] [(0, 1), (1, 1)] := ⟨by kernel_rfl⟩
instance tAg83 : TAg Try.prog 83 true := ⟨by kernel_rfl⟩
instance tSize83 : TSize Try.prog 83 2 := ⟨by kernel_rfl⟩
instance tZe83 : TZe Try.prog 83 [.int .i64 0, .int .i64 0] := ⟨by kernel_rfl⟩
instance tBy83 : TBy Try.prog 83 16 := ⟨by kernel_rfl⟩
instance tFl83_0 : TFl Try.prog 83 0 0 3 := ⟨by kernel_rfl⟩
instance tFl83_1 : TFl Try.prog 83 1 1 3 := ⟨by kernel_rfl⟩
instance tSt83 : TSt Try.prog 83 [.int .i64 0, .int .i64 0] [(0, 1), (1, 1)] := ⟨by kernel_rfl⟩
instance tAg84 : TAg Try.prog 84 false := ⟨by kernel_rfl⟩
instance tSize84 : TSize Try.prog 84 1 := ⟨by kernel_rfl⟩
instance tZe84 : TZe Try.prog 84 [.nilFunc] := ⟨by kernel_rfl⟩
instance tBy84 : TBy Try.prog 84 8 := ⟨by kernel_rfl⟩
instance tAg86 : TAg Try.prog 86 false := ⟨by kernel_rfl⟩
instance tSize86 : TSize Try.prog 86 1 := ⟨by kernel_rfl⟩
instance tZe86 : TZe Try.prog 86 [.nilFunc] := ⟨by kernel_rfl⟩
instance tBy86 : TBy Try.prog 86 8 := ⟨by kernel_rfl⟩
instance tAg87 : TAg Try.prog 87 false := ⟨by kernel_rfl⟩
instance tSize87 : TSize Try.prog 87 1 := ⟨by kernel_rfl⟩
instance tZe87 : TZe Try.prog 87 [.nilFunc] := ⟨by kernel_rfl⟩
instance tBy87 : TBy Try.prog 87 8 := ⟨by kernel_rfl⟩
instance tAg88 : TAg Try.prog 88 false := ⟨by kernel_rfl⟩
instance tSize88 : TSize Try.prog 88 1 := ⟨by kernel_rfl⟩
instance tZe88 : TZe Try.prog 88 [.nilFunc] := ⟨by kernel_rfl⟩
instance tBy88 : TBy Try.prog 88 8 := ⟨by kernel_rfl⟩
instance tAg89 : TAg Try.prog 89 true := ⟨by kernel_rfl⟩
instance tSize89 : TSize Try.prog 89 2 := ⟨by kernel_rfl⟩
instance tZe89 : TZe Try.prog 89 [.slice none 0 0, .slice none 0 0] := ⟨by kernel_rfl⟩
instance tBy89 : TBy Try.prog 89 48 := ⟨by kernel_rfl⟩
instance tFl89_0 : TFl Try.prog 89 0 0 22 := ⟨by kernel_rfl⟩
instance tFl89_1 : TFl Try.prog 89 1 1 22 := ⟨by kernel_rfl⟩
instance tSt89 : TSt Try.prog 89 [.slice none 0 0, .slice none 0 0] [(0, 1), (1, 1)] := ⟨by kernel_rfl⟩
instance tAg90 : TAg Try.prog 90 true := ⟨by kernel_rfl⟩
instance tSize90 : TSize Try.prog 90 2 := ⟨by kernel_rfl⟩
instance tZe90 : TZe Try.prog 90 [.slice none 0 0, .slice none 0 0] := ⟨by kernel_rfl⟩
instance tBy90 : TBy Try.prog 90 48 := ⟨by kernel_rfl⟩
instance tFl90_0 : TFl Try.prog 90 0 0 22 := ⟨by kernel_rfl⟩
instance tFl90_1 : TFl Try.prog 90 1 1 22 := ⟨by kernel_rfl⟩
instance tSt90 : TSt Try.prog 90 [.slice none 0 0, .slice none 0 0] [(0, 1), (1, 1)] := ⟨by kernel_rfl⟩
instance tAg91 : TAg Try.prog 91 false := ⟨by kernel_rfl⟩
instance tSize91 : TSize Try.prog 91 1 := ⟨by kernel_rfl⟩
instance tZe91 : TZe Try.prog 91 [.pointer none] := ⟨by kernel_rfl⟩
instance tBy91 : TBy Try.prog 91 8 := ⟨by kernel_rfl⟩
instance tAg92 : TAg Try.prog 92 true := ⟨by kernel_rfl⟩
instance tSize92 : TSize Try.prog 92 1 := ⟨by kernel_rfl⟩
instance tZe92 : TZe Try.prog 92 [.slice none 0 0] := ⟨by kernel_rfl⟩
instance tBy92 : TBy Try.prog 92 24 := ⟨by kernel_rfl⟩
instance tFl92_0 : TFl Try.prog 92 0 0 35 := ⟨by kernel_rfl⟩
instance tSt92 : TSt Try.prog 92 [.slice none 0 0] [(0, 1)] := ⟨by kernel_rfl⟩
instance tAg93 : TAg Try.prog 93 true := ⟨by kernel_rfl⟩
instance tSize93 : TSize Try.prog 93 1 := ⟨by kernel_rfl⟩
instance tZe93 : TZe Try.prog 93 [.slice none 0 0] := ⟨by kernel_rfl⟩
instance tBy93 : TBy Try.prog 93 24 := ⟨by kernel_rfl⟩
instance tFl93_0 : TFl Try.prog 93 0 0 35 := ⟨by kernel_rfl⟩
instance tSt93 : TSt Try.prog 93 [.slice none 0 0] [(0, 1)] := ⟨by kernel_rfl⟩
instance tAg94 : TAg Try.prog 94 false := ⟨by kernel_rfl⟩
instance tSize94 : TSize Try.prog 94 1 := ⟨by kernel_rfl⟩
instance tZe94 : TZe Try.prog 94 [.nilFunc] := ⟨by kernel_rfl⟩
instance tBy94 : TBy Try.prog 94 8 := ⟨by kernel_rfl⟩
instance tAg95 : TAg Try.prog 95 false := ⟨by kernel_rfl⟩
instance tSize95 : TSize Try.prog 95 1 := ⟨by kernel_rfl⟩
instance tZe95 : TZe Try.prog 95 [.nilFunc] := ⟨by kernel_rfl⟩
instance tBy95 : TBy Try.prog 95 8 := ⟨by kernel_rfl⟩
instance tAg96 : TAg Try.prog 96 false := ⟨by kernel_rfl⟩
instance tSize96 : TSize Try.prog 96 1 := ⟨by kernel_rfl⟩
instance tZe96 : TZe Try.prog 96 [.nilFunc] := ⟨by kernel_rfl⟩
instance tBy96 : TBy Try.prog 96 8 := ⟨by kernel_rfl⟩
instance tAg97 : TAg Try.prog 97 true := ⟨by kernel_rfl⟩
instance tSize97 : TSize Try.prog 97 3 := ⟨by kernel_rfl⟩
instance tZe97 : TZe Try.prog 97 [.int .i64 0, .int .i64 0, .slice none 0 0] := ⟨by kernel_rfl⟩
instance tBy97 : TBy Try.prog 97 40 := ⟨by kernel_rfl⟩
instance tFl97_0 : TFl Try.prog 97 0 0 28 := ⟨by kernel_rfl⟩
instance tFl97_1 : TFl Try.prog 97 1 2 70 := ⟨by kernel_rfl⟩
instance tSt97 : TSt Try.prog 97 [.int .i64 0, .int .i64 0, .slice none 0 0] [(0, 2), (2, 1)] := ⟨by kernel_rfl⟩
instance tAg98 : TAg Try.prog 98 true := ⟨by kernel_rfl⟩
instance tSize98 : TSize Try.prog 98 3 := ⟨by kernel_rfl⟩
instance tZe98 : TZe Try.prog 98 [.int .i64 0, .int .i64 0, .slice none 0 0] := ⟨by kernel_rfl⟩
instance tBy98 : TBy Try.prog 98 40 := ⟨by kernel_rfl⟩
instance tFl98_0 : TFl Try.prog 98 0 0 28 := ⟨by kernel_rfl⟩
instance tFl98_1 : TFl Try.prog 98 1 2 70 := ⟨by kernel_rfl⟩
instance tSt98 : TSt Try.prog 98 [.int .i64 0, .int .i64 0, .slice none 0 0] [(0, 2), (2, 1)] := ⟨by kernel_rfl⟩
instance tAg99 : TAg Try.prog 99 false := ⟨by kernel_rfl⟩
instance tSize99 : TSize Try.prog 99 1 := ⟨by kernel_rfl⟩
instance tZe99 : TZe Try.prog 99 [.nilFunc] := ⟨by kernel_rfl⟩
instance tBy99 : TBy Try.prog 99 8 := ⟨by kernel_rfl⟩
instance tAg100 : TAg Try.prog 100 false := ⟨by kernel_rfl⟩
instance tSize100 : TSize Try.prog 100 1 := ⟨by kernel_rfl⟩
instance tZe100 : TZe Try.prog 100 [.nilFunc] := ⟨by kernel_rfl⟩
instance tBy100 : TBy Try.prog 100 8 := ⟨by kernel_rfl⟩
instance tAg101 : TAg Try.prog 101 false := ⟨by kernel_rfl⟩
instance tSize101 : TSize Try.prog 101 1 := ⟨by kernel_rfl⟩
instance tZe101 : TZe Try.prog 101 [.nilFunc] := ⟨by kernel_rfl⟩
instance tBy101 : TBy Try.prog 101 8 := ⟨by kernel_rfl⟩
instance tAg102 : TAg Try.prog 102 false := ⟨by kernel_rfl⟩
instance tSize102 : TSize Try.prog 102 1 := ⟨by kernel_rfl⟩
instance tZe102 : TZe Try.prog 102 [.nilFunc] := ⟨by kernel_rfl⟩
instance tBy102 : TBy Try.prog 102 8 := ⟨by kernel_rfl⟩
instance tAg103 : TAg Try.prog 103 false := ⟨by kernel_rfl⟩
instance tSize103 : TSize Try.prog 103 1 := ⟨by kernel_rfl⟩
instance tZe103 : TZe Try.prog 103 [.nilFunc] := ⟨by kernel_rfl⟩
instance tBy103 : TBy Try.prog 103 8 := ⟨by kernel_rfl⟩
instance tAg104 : TAg Try.prog 104 false := ⟨by kernel_rfl⟩
instance tSize104 : TSize Try.prog 104 1 := ⟨by kernel_rfl⟩
instance tZe104 : TZe Try.prog 104 [.nilFunc] := ⟨by kernel_rfl⟩
instance tBy104 : TBy Try.prog 104 8 := ⟨by kernel_rfl⟩
instance tAg105 : TAg Try.prog 105 false := ⟨by kernel_rfl⟩
instance tSize105 : TSize Try.prog 105 1 := ⟨by kernel_rfl⟩
instance tZe105 : TZe Try.prog 105 [.nilFunc] := ⟨by kernel_rfl⟩
instance tBy105 : TBy Try.prog 105 8 := ⟨by kernel_rfl⟩
instance tAg106 : TAg Try.prog 106 false := ⟨by kernel_rfl⟩
instance tSize106 : TSize Try.prog 106 1 := ⟨by kernel_rfl⟩
instance tZe106 : TZe Try.prog 106 [.nilFunc] := ⟨by kernel_rfl⟩
instance tBy106 : TBy Try.prog 106 8 := ⟨by kernel_rfl⟩
instance tAg107 : TAg Try.prog 107 false := ⟨by kernel_rfl⟩
instance tSize107 : TSize Try.prog 107 1 := ⟨by kernel_rfl⟩
instance tZe107 : TZe Try.prog 107 [.nilFunc] := ⟨by kernel_rfl⟩
instance tBy107 : TBy Try.prog 107 8 := ⟨by kernel_rfl⟩
instance tAg108 : TAg Try.prog 108 false := ⟨by kernel_rfl⟩
instance tSize108 : TSize Try.prog 108 1 := ⟨by kernel_rfl⟩
instance tZe108 : TZe Try.prog 108 [.nilFunc] := ⟨by kernel_rfl⟩
instance tBy108 : TBy Try.prog 108 8 := ⟨by kernel_rfl⟩
instance tAg110 : TAg Try.prog 110 false := ⟨by kernel_rfl⟩
instance tSize110 : TSize Try.prog 110 1 := ⟨by kernel_rfl⟩
instance tZe110 : TZe Try.prog 110 [.nilFunc] := ⟨by kernel_rfl⟩
instance tBy110 : TBy Try.prog 110 8 := ⟨by kernel_rfl⟩
instance tAg111 : TAg Try.prog 111 false := ⟨by kernel_rfl⟩
instance tSize111 : TSize Try.prog 111 1 := ⟨by kernel_rfl⟩
instance tZe111 : TZe Try.prog 111 [.nilFunc] := ⟨by kernel_rfl⟩
instance tBy111 : TBy Try.prog 111 8 := ⟨by kernel_rfl⟩
instance tAg112 : TAg Try.prog 112 false := ⟨by kernel_rfl⟩
instance tSize112 : TSize Try.prog 112 1 := ⟨by kernel_rfl⟩
instance tZe112 : TZe Try.prog 112 [.nilFunc] := ⟨by kernel_rfl⟩
instance tBy112 : TBy Try.prog 112 8 := ⟨by kernel_rfl⟩
instance tAg113 : TAg Try.prog 113 false := ⟨by kernel_rfl⟩
instance tSize113 : TSize Try.prog 113 1 := ⟨by kernel_rfl⟩
instance tZe113 : TZe Try.prog 113 [.nilFunc] := ⟨by kernel_rfl⟩
instance tBy113 : TBy Try.prog 113 8 := ⟨by kernel_rfl⟩
instance tAg114 : TAg Try.prog 114 false := ⟨by kernel_rfl⟩
instance tSize114 : TSize Try.prog 114 1 := ⟨by kernel_rfl⟩
instance tZe114 : TZe Try.prog 114 [.nilFunc] := ⟨by kernel_rfl⟩
instance tBy114 : TBy Try.prog 114 8 := ⟨by kernel_rfl⟩
instance tAg115 : TAg Try.prog 115 false := ⟨by kernel_rfl⟩
instance tSize115 : TSize Try.prog 115 1 := ⟨by kernel_rfl⟩
instance tZe115 : TZe Try.prog 115 [.nilFunc] := ⟨by kernel_rfl⟩
instance tBy115 : TBy Try.prog 115 8 := ⟨by kernel_rfl⟩
instance tAg116 : TAg Try.prog 116 false := ⟨by kernel_rfl⟩
instance tSize116 : TSize Try.prog 116 1 := ⟨by kernel_rfl⟩
instance tZe116 : TZe Try.prog 116 [.nilFunc] := ⟨by kernel_rfl⟩
instance tBy116 : TBy Try.prog 116 8 := ⟨by kernel_rfl⟩
instance tAg117 : TAg Try.prog 117 false := ⟨by kernel_rfl⟩
instance tSize117 : TSize Try.prog 117 1 := ⟨by kernel_rfl⟩
instance tZe117 : TZe Try.prog 117 [.nilFunc] := ⟨by kernel_rfl⟩
instance tBy117 : TBy Try.prog 117 8 := ⟨by kernel_rfl⟩
instance tAg118 : TAg Try.prog 118 false := ⟨by kernel_rfl⟩
instance tSize118 : TSize Try.prog 118 1 := ⟨by kernel_rfl⟩
instance tZe118 : TZe Try.prog 118 [.slice none 0 0] := ⟨by kernel_rfl⟩
instance tBy118 : TBy Try.prog 118 24 := ⟨by kernel_rfl⟩
instance tEl118 : TEl Try.prog 118 9 := ⟨by kernel_rfl⟩
instance tRo118 : TRo Try.prog 118 9 1 16 := ⟨by kernel_rfl⟩
instance tAg119 : TAg Try.prog 119 false := ⟨by kernel_rfl⟩
instance tSize119 : TSize Try.prog 119 1 := ⟨by kernel_rfl⟩
instance tZe119 : TZe Try.prog 119 [.slice none 0 0] := ⟨by kernel_rfl⟩
instance tBy119 : TBy Try.prog 119 24 := ⟨by kernel_rfl⟩
instance tEl119 : TEl Try.prog 119 123 := ⟨by kernel_rfl⟩
instance tRo119 : TRo Try.prog 119 123 4 48 := ⟨by kernel_rfl⟩
instance tAg120 : TAg Try.prog 120 false := ⟨by kernel_rfl⟩
instance tSize120 : TSize Try.prog 120 1 := ⟨by kernel_rfl⟩
instance tZe120 : TZe Try.prog 120 [.nilFunc] := ⟨by kernel_rfl⟩
instance tBy120 : TBy Try.prog 120 8 := ⟨by kernel_rfl⟩
instance tAg121 : TAg Try.prog 121 false := ⟨by kernel_rfl⟩
instance tSize121 : TSize Try.prog 121 1 := ⟨by kernel_rfl⟩
instance tZe121 : TZe Try.prog 121 [.nilFunc] := ⟨by kernel_rfl⟩
instance tBy121 : TBy Try.prog 121 8 := ⟨by kernel_rfl⟩
instance tAg122 : TAg Try.prog 122 true := ⟨by kernel_rfl⟩
instance tSize122 : TSize Try.prog 122 4 := ⟨by kernel_rfl⟩
instance tZe122 : TZe Try.prog 122 [.int .i64 0, .int .i64 0, .int .i64 0, .slice none 0 0] := ⟨by kernel_rfl⟩
instance tBy122 : TBy Try.prog 122 48 := ⟨by kernel_rfl⟩
instance tFl122_0 : TFl Try.prog 122 0 0 3 := ⟨by kernel_rfl⟩
instance tFl122_1 : TFl Try.prog 122 1 1 98 := ⟨by kernel_rfl⟩
instance tSt122 : TSt Try.prog 122 [.int .i64 0, .int .i64 0, .int .i64 0, .slice none 0 0] [(0, 1), (1, 3)] := ⟨by kernel_rfl⟩
instance tAg123 : TAg Try.prog 123 true := ⟨by kernel_rfl⟩
instance tSize123 : TSize Try.prog 123 4 := ⟨by kernel_rfl⟩
instance tZe123 : TZe Try.prog 123 [.int .i64 0, .int .i64 0, .int .i64 0, .slice none 0 0] := ⟨by kernel_rfl⟩
instance tBy123 : TBy Try.prog 123 48 := ⟨by kernel_rfl⟩
instance tFl123_0 : TFl Try.prog 123 0 0 3 := ⟨by kernel_rfl⟩
instance tFl123_1 : TFl Try.prog 123 1 1 98 := ⟨by kernel_rfl⟩
instance tSt123 : TSt Try.prog 123 [.int .i64 0, .int .i64 0, .int .i64 0, .slice none 0 0] [(0, 1), (1, 3)] := ⟨by kernel_rfl⟩
instance tAg124 : TAg Try.prog 124 false := ⟨by kernel_rfl⟩
instance tSize124 : TSize Try.prog 124 1 := ⟨by kernel_rfl⟩
instance tZe124 : TZe Try.prog 124 [.nilFunc] := ⟨by kernel_rfl⟩
instance tBy124 : TBy Try.prog 124 8 := ⟨by kernel_rfl⟩
instance tAg125 : TAg Try.prog 125 false := ⟨by kernel_rfl⟩
instance tSize125 : TSize Try.prog 125 1 := ⟨by kernel_rfl⟩
instance tZe125 : TZe Try.prog 125 [.nilFunc] := ⟨by kernel_rfl⟩
instance tBy125 : TBy Try.prog 125 8 := ⟨by kernel_rfl⟩
instance tAg126 : TAg Try.prog 126 true := ⟨by kernel_rfl⟩
instance tSize126 : TSize Try.prog 126 2 := ⟨by kernel_rfl⟩
instance tZe126 : TZe Try.prog 126 [.int .i64 0, .int .i64 0] := ⟨by kernel_rfl⟩
instance tBy126 : TBy Try.prog 126 16 := ⟨by kernel_rfl⟩
instance tFl126_0 : TFl Try.prog 126 0 0 3 := ⟨by kernel_rfl⟩
instance tFl126_1 : TFl Try.prog 126 1 1 3 := ⟨by kernel_rfl⟩
instance tSt126 : TSt Try.prog 126 [.int .i64 0, .int .i64 0] [(0, 1), (1, 1)] := ⟨by kernel_rfl⟩
instance tAg127 : TAg Try.prog 127 true := ⟨by kernel_rfl⟩
instance tSize127 : TSize Try.prog 127 2 := ⟨by kernel_rfl⟩
instance tZe127 : TZe Try.prog 127 [.int .i64 0, .int .i64 0] := ⟨by kernel_rfl⟩
instance tBy127 : TBy Try.prog 127 16 := ⟨by kernel_rfl⟩
instance tFl127_0 : TFl Try.prog 127 0 0 3 := ⟨by kernel_rfl⟩
instance tFl127_1 : TFl Try.prog 127 1 1 3 := ⟨by kernel_rfl⟩
instance tSt127 : TSt Try.prog 127 [.int .i64 0, .int .i64 0] [(0, 1), (1, 1)] := ⟨by kernel_rfl⟩
instance tAg128 : TAg Try.prog 128 true := ⟨by kernel_rfl⟩
instance tSize128 : TSize Try.prog 128 4 := ⟨by kernel_rfl⟩
instance tZe128 : TZe Try.prog 128 [.bool false, .int .i64 0, .int .i64 0, .int .i64 0] := ⟨by kernel_rfl⟩
instance tBy128 : TBy Try.prog 128 32 := ⟨by kernel_rfl⟩
instance tFl128_0 : TFl Try.prog 128 0 0 4 := ⟨by kernel_rfl⟩
instance tFl128_1 : TFl Try.prog 128 1 1 3 := ⟨by kernel_rfl⟩
instance tFl128_2 : TFl Try.prog 128 2 2 127 := ⟨by kernel_rfl⟩
instance tSt128 : TSt Try.prog 128 [.bool false, .int .i64 0, .int .i64 0, .int .i64 0] [(0, 1), (1, 1), (2, 2)] := ⟨by kernel_rfl⟩
instance tAg129 : TAg Try.prog 129 true := ⟨by kernel_rfl⟩
instance tSize129 : TSize Try.prog 129 4 := ⟨by kernel_rfl⟩
instance tZe129 : TZe Try.prog 129 [.bool false, .int .i64 0, .int .i64 0, .int .i64 0] := ⟨by kernel_rfl⟩
instance tBy129 : TBy Try.prog 129 32 := ⟨by kernel_rfl⟩
instance tFl129_0 : TFl Try.prog 129 0 0 4 := ⟨by kernel_rfl⟩
instance tFl129_1 : TFl Try.prog 129 1 1 3 := ⟨by kernel_rfl⟩
instance tFl129_2 : TFl Try.prog 129 2 2 127 := ⟨by kernel_rfl⟩
instance tSt129 : TSt Try.prog 129 [.bool false, .int .i64 0, .int .i64 0, .int .i64 0] [(0, 1), (1, 1), (2, 2)] := ⟨by kernel_rfl⟩
instance tAg130 : TAg Try.prog 130 true := ⟨by kernel_rfl⟩
instance tSize130 : TSize Try.prog 130 11 := ⟨by kernel_rfl⟩
instance tZe130 : TZe Try.prog 130 [.int .i64 0, .int .i64 0, .int .i64 0, .bool false, .int .i64 0, .int .i64 0, .int .i64 0, .bool false, .int .i64 0, .int .i64 0, .int .i64 0] := ⟨by kernel_rfl⟩
instance tBy130 : TBy Try.prog 130 88 := ⟨by kernel_rfl⟩
instance tFl130_0 : TFl Try.prog 130 0 0 3 := ⟨by kernel_rfl⟩
instance tFl130_1 : TFl Try.prog 130 1 1 127 := ⟨by kernel_rfl⟩
instance tFl130_2 : TFl Try.prog 130 2 3 129 := ⟨by kernel_rfl⟩
instance tFl130_3 : TFl Try.prog 130 3 7 129 := ⟨by kernel_rfl⟩
instance tSt130 : TSt Try.prog 130 [.int .i64 0, .int .i64 0, .int .i64 0, .bool false, .int .i64 0, .int .i64 0, .int .i64 0, .bool false, .int .i64 0, .int .i64 0, .int .i64 0] [(0, 1), (1, 2), (3, 4), (7, 4)] := ⟨by kernel_rfl⟩
instance tAg131 : TAg Try.prog 131 true := ⟨by kernel_rfl⟩
instance tSize131 : TSize Try.prog 131 11 := ⟨by kernel_rfl⟩
instance tZe131 : TZe Try.prog 131 [.int .i64 0, .int .i64 0, .int .i64 0, .bool false, .int .i64 0, .int .i64 0, .int .i64 0, .bool false, .int .i64 0, .int .i64 0, .int .i64 0] := ⟨by kernel_rfl⟩
instance tBy131 : TBy Try.prog 131 88 := ⟨by kernel_rfl⟩
instance tFl131_0 : TFl Try.prog 131 0 0 3 := ⟨by kernel_rfl⟩
instance tFl131_1 : TFl Try.prog 131 1 1 127 := ⟨by kernel_rfl⟩
instance tFl131_2 : TFl Try.prog 131 2 3 129 := ⟨by kernel_rfl⟩
instance tFl131_3 : TFl Try.prog 131 3 7 129 := ⟨by kernel_rfl⟩
instance tSt131 : TSt Try.prog 131 [.int .i64 0, .int .i64 0, .int .i64 0, .bool false, .int .i64 0, .int .i64 0, .int .i64 0, .bool false, .int .i64 0, .int .i64 0, .int .i64 0] [(0, 1), (1, 2), (3, 4), (7, 4)] := ⟨by kernel_rfl⟩
instance tAg132 : TAg Try.prog 132 false := ⟨by kernel_rfl⟩
instance tSize132 : TSize Try.prog 132 1 := ⟨by kernel_rfl⟩
instance tZe132 : TZe Try.prog 132 [.nilFunc] := ⟨by kernel_rfl⟩
instance tBy132 : TBy Try.prog 132 8 := ⟨by kernel_rfl⟩
instance tAg133 : TAg Try.prog 133 false := ⟨by kernel_rfl⟩
instance tSize133 : TSize Try.prog 133 1 := ⟨by kernel_rfl⟩
instance tZe133 : TZe Try.prog 133 [.nilFunc] := ⟨by kernel_rfl⟩
instance tBy133 : TBy Try.prog 133 8 := ⟨by kernel_rfl⟩
instance tAg134 : TAg Try.prog 134 false := ⟨by kernel_rfl⟩
instance tSize134 : TSize Try.prog 134 1 := ⟨by kernel_rfl⟩
instance tZe134 : TZe Try.prog 134 [.nilFunc] := ⟨by kernel_rfl⟩
instance tBy134 : TBy Try.prog 134 8 := ⟨by kernel_rfl⟩
instance tAg135 : TAg Try.prog 135 false := ⟨by kernel_rfl⟩
instance tSize135 : TSize Try.prog 135 1 := ⟨by kernel_rfl⟩
instance tZe135 : TZe Try.prog 135 [.nilFunc] := ⟨by kernel_rfl⟩
instance tBy135 : TBy Try.prog 135 8 := ⟨by kernel_rfl⟩
instance tAg136 : TAg Try.prog 136 false := ⟨by kernel_rfl⟩
instance tSize136 : TSize Try.prog 136 1 := ⟨by kernel_rfl⟩
instance tZe136 : TZe Try.prog 136 [.nilFunc] := ⟨by kernel_rfl⟩
instance tBy136 : TBy Try.prog 136 8 := ⟨by kernel_rfl⟩
instance tAg137 : TAg Try.prog 137 false := ⟨by kernel_rfl⟩
instance tSize137 : TSize Try.prog 137 1 := ⟨by kernel_rfl⟩
instance tZe137 : TZe Try.prog 137 [.int .u64 0] := ⟨by kernel_rfl⟩
instance tBy137 : TBy Try.prog 137 8 := ⟨by kernel_rfl⟩
instance tAg138 : TAg Try.prog 138 false := ⟨by kernel_rfl⟩
instance tSize138 : TSize Try.prog 138 1 := ⟨by kernel_rfl⟩
instance tZe138 : TZe Try.prog 138 [.nilFunc] := ⟨by kernel_rfl⟩
instance tBy138 : TBy Try.prog 138 8 := ⟨by kernel_rfl⟩
instance tAg139 : TAg Try.prog 139 false := ⟨by kernel_rfl⟩
instance tSize139 : TSize Try.prog 139 1 := ⟨by kernel_rfl⟩
instance tZe139 : TZe Try.prog 139 [.nilFunc] := ⟨by kernel_rfl⟩
instance tBy139 : TBy Try.prog 139 8 := ⟨by kernel_rfl⟩
instance tAg140 : TAg Try.prog 140 false := ⟨by kernel_rfl⟩
instance tSize140 : TSize Try.prog 140 1 := ⟨by kernel_rfl⟩
instance tZe140 : TZe Try.prog 140 [.nilFunc] := ⟨by kernel_rfl⟩
instance tBy140 : TBy Try.prog 140 8 := ⟨by kernel_rfl⟩
instance tAg141 : TAg Try.prog 141 false := ⟨by kernel_rfl⟩
instance tSize141 : TSize Try.prog 141 1 := ⟨by kernel_rfl⟩
instance tZe141 : TZe Try.prog 141 [.nilFunc] := ⟨by kernel_rfl⟩
instance tBy141 : TBy Try.prog 141 8 := ⟨by kernel_rfl⟩
instance tAg142 : TAg Try.prog 142 false := ⟨by kernel_rfl⟩
instance tSize142 : TSize Try.prog 142 1 := ⟨by kernel_rfl⟩
instance tZe142 : TZe Try.prog 142 [.nilFunc] := ⟨by kernel_rfl⟩
instance tBy142 : TBy Try.prog 142 8 := ⟨by kernel_rfl⟩
instance tAg143 : TAg Try.prog 143 false := ⟨by kernel_rfl⟩
instance tSize143 : TSize Try.prog 143 1 := ⟨by kernel_rfl⟩
instance tZe143 : TZe Try.prog 143 [.nilFunc] := ⟨by kernel_rfl⟩
instance tBy143 : TBy Try.prog 143 8 := ⟨by kernel_rfl⟩
instance tAg144 : TAg Try.prog 144 false := ⟨by kernel_rfl⟩
instance tSize144 : TSize Try.prog 144 1 := ⟨by kernel_rfl⟩
instance tZe144 : TZe Try.prog 144 [.nilFunc] := ⟨by kernel_rfl⟩
instance tBy144 : TBy Try.prog 144 8 := ⟨by kernel_rfl⟩
instance tAg145 : TAg Try.prog 145 false := ⟨by kernel_rfl⟩
instance tSize145 : TSize Try.prog 145 1 := ⟨by kernel_rfl⟩
instance tZe145 : TZe Try.prog 145 [.nilFunc] := ⟨by kernel_rfl⟩
instance tBy145 : TBy Try.prog 145 8 := ⟨by kernel_rfl⟩
instance tAg146 : TAg Try.prog 146 false := ⟨by kernel_rfl⟩
instance tSize146 : TSize Try.prog 146 1 := ⟨by kernel_rfl⟩
instance tZe146 : TZe Try.prog 146 [.nilFunc] := ⟨by kernel_rfl⟩
instance tBy146 : TBy Try.prog 146 8 := ⟨by kernel_rfl⟩
instance tAg147 : TAg Try.prog 147 false := ⟨by kernel_rfl⟩
instance tSize147 : TSize Try.prog 147 1 := ⟨by kernel_rfl⟩
instance tZe147 : TZe Try.prog 147 [.nilFunc] := ⟨by kernel_rfl⟩
instance tBy147 : TBy Try.prog 147 8 := ⟨by kernel_rfl⟩
instance tAg148 : TAg Try.prog 148 false := ⟨by kernel_rfl⟩
instance tSize148 : TSize Try.prog 148 1 := ⟨by kernel_rfl⟩
instance tZe148 : TZe Try.prog 148 [.nilFunc] := ⟨by kernel_rfl⟩
instance tBy148 : TBy Try.prog 148 8 := ⟨by kernel_rfl⟩
instance tAg149 : TAg Try.prog 149 false := ⟨by kernel_rfl⟩
instance tSize149 : TSize Try.prog 149 1 := ⟨by kernel_rfl⟩
instance tZe149 : TZe Try.prog 149 [.nilFunc] := ⟨by kernel_rfl⟩
instance tBy149 : TBy Try.prog 149 8 := ⟨by kernel_rfl⟩
instance tAg155 : TAg Try.prog 155 false := ⟨by kernel_rfl⟩
instance tSize155 : TSize Try.prog 155 1 := ⟨by kernel_rfl⟩
instance tZe155 : TZe Try.prog 155 [.int .u32 0] := ⟨by kernel_rfl⟩
instance tBy155 : TBy Try.prog 155 4 := ⟨by kernel_rfl⟩
instance tAg158 : TAg Try.prog 158 false := ⟨by kernel_rfl⟩
instance tSize158 : TSize Try.prog 158 1 := ⟨by kernel_rfl⟩
instance tZe158 : TZe Try.prog 158 [.nilFunc] := ⟨by kernel_rfl⟩
instance tBy158 : TBy Try.prog 158 8 := ⟨by kernel_rfl⟩
instance tAg159 : TAg Try.prog 159 false := ⟨by kernel_rfl⟩
instance tSize159 : TSize Try.prog 159 1 := ⟨by kernel_rfl⟩
instance tZe159 : TZe Try.prog 159 [.pointer none] := ⟨by kernel_rfl⟩
instance tBy159 : TBy Try.prog 159 8 := ⟨by kernel_rfl⟩
instance tAg164 : TAg Try.prog 164 false := ⟨by kernel_rfl⟩
instance tSize164 : TSize Try.prog 164 1 := ⟨by kernel_rfl⟩
instance tZe164 : TZe Try.prog 164 [.pointer none] := ⟨by kernel_rfl⟩
instance tBy164 : TBy Try.prog 164 8 := ⟨by kernel_rfl⟩
end Go.Proofs.Ytcfleoaldoebhaa

namespace Go.Proofs.Ytcfleoaldoebhaa
set_option linter.unusedSimpArgs false
set_option linter.unusedVariables false
abbrev iA (n : Int) : AV := .prim (.int .i64 n)
abbrev bA (b : Bool) : AV := .prim (.bool b)
abbrev sA (l : List UInt8) : AV := .prim (strA l)
def fieldA (f : Field) : AV := .agg [sA f.name, iA f.bits, iA f.low]
abbrev fieldsA (o : Bool) (l : List Field) : AV := .lst o 62 3 (l.map fieldA)
def kindA (o : Bool) (k : Kind) : AV := .agg [sA k.name, fieldsA o k.fields]
abbrev kindsA (o o' : Bool) (l : List Kind) : AV := .lst o 51 2 (l.map (kindA o'))
abbrev intsA (o : Bool) (l : List Int) : AV := .lst o 3 1 (l.map iA)
instance {f : Field} : Frz (fieldA f) (fieldA f) := ⟨rfl⟩
instance {o : Bool} {k : Kind} : Frz (kindA o k) (kindA false k) := ⟨by unfold kindA; exact Frz.h⟩
def compA (o : Bool) (c : Comp) : AV := .agg [iA c.kind, intsA o c.vals]
abbrev compsA (o o' : Bool) (l : List Comp) : AV := .lst o 58 2 (l.map (compA o'))
def itemA (o : Bool) (x : Item) : AV := .agg [iA x.ent.n, iA x.ent.gen, compsA o o x.comps]
abbrev itemsA (o o' : Bool) (l : List Item) : AV := .lst o 98 3 (l.map (itemA o'))
def wdA (o : Bool) (w : Wd) : AV := .agg [kindsA o o w.kinds, intsA o w.gens, itemsA o o w.items]
def entA (e : Ent) : AV := .agg [iA e.n, iA e.gen]
def evtA (e : Evt) : AV := .agg [iA e.sys, iA e.ent.n, iA e.ent.gen, iA e.val]
instance {e : Ent} : Frz (entA e) (entA e) := ⟨rfl⟩
instance {e : Evt} : Frz (evtA e) (evtA e) := ⟨rfl⟩
instance {o : Bool} {k : Comp} : Frz (compA o k) (compA false k) := ⟨by unfold compA; exact Frz.h⟩
instance {o : Bool} {k : Item} : Frz (itemA o k) (itemA false k) := ⟨by unfold itemA; exact Frz.h⟩
instance {o : Bool} {k : Wd} : Frz (wdA o k) (wdA false k) := ⟨by unfold wdA; exact Frz.h⟩
theorem frzs_same {α : Type} (f : α → AV) (h : ∀ a, (f a).frz = f a) (l : List α) : AV.frzs (l.map f) = l.map f := by
  rw [frzs_map, List.map_map]
  exact List.map_congr_left fun a _ => h a
theorem intsA_frz (o : Bool) (l : List Int) : (intsA o l).frz = intsA false l := by
  show AV.lst false _ _ (AV.frzs (l.map iA)) = _
  rw [frzs_same _ fun _ => rfl]
end Go.Proofs.Ytcfleoaldoebhaa

namespace Go.Proofs.Ytcfleoaldoebhaa
set_option linter.unusedSimpArgs false
set_option linter.unusedVariables false

def nextV (l : List Int) (n : Int) : Int := if n < 1 then 0 else match l with | [] => 0 | x :: _ => x % n
def nextL (l : List Int) (n : Int) : List Int := if n < 1 then l else l.tail
theorem nextV_range (l : List Int) {n : Int} (h : 1 ≤ n) : 0 ≤ nextV l n ∧ nextV l n < n := by
  unfold nextV
  rw [if_neg (by omega)]
  split
  · omega
  · rename_i x _
    exact ⟨Int.emod_nonneg x (by omega), Int.emod_lt_of_pos x (by omega)⟩
theorem nextL_len (l : List Int) (n : Int) : (nextL l n).length ≤ l.length := by
  unfold nextL
  split
  · exact Nat.le_refl _
  · rw [List.length_tail]; omega

/-- The names of kinds: spot, life, team, goal. -/
def kindName (k : Nat) : List UInt8 := match k with
  | 0 => [115, 112, 111, 116]
  | 1 => [108, 105, 102, 101]
  | 2 => [116, 101, 97, 109]
  | _ => [103, 111, 97, 108]
/-- The names of fields: x, y, z. -/
def fieldName (k : Nat) : List UInt8 := match k with
  | 0 => [120]
  | 1 => [121]
  | _ => [122]
def genField (i : Nat) (l : List Int) : Field × List Int :=
  if nextV (nextL (nextL l 9) 40) 8 = 7 then (⟨fieldName i, 32, -2147483648⟩, nextL (nextL (nextL l 9) 40) 8)
  else (⟨fieldName i, 1 + nextV l 9, nextV (nextL l 9) 40 - 30⟩, nextL (nextL (nextL l 9) 40) 8)
def genFields : Nat → Nat → List Int → List Field × List Int
  | _, 0, l => ([], l)
  | i, c + 1, l => ((genField i l).1 :: (genFields (i + 1) c (genField i l).2).1, (genFields (i + 1) c (genField i l).2).2)
def genKind (k : Nat) (l : List Int) : Kind × List Int :=
  (⟨kindName k, (genFields 0 (1 + nextV l 3).toNat (nextL l 3)).1⟩, (genFields 0 (1 + nextV l 3).toNat (nextL l 3)).2)
def genKindsFrom : Nat → Nat → List Int → List Kind × List Int
  | _, 0, l => ([], l)
  | k, c + 1, l => ((genKind k l).1 :: (genKindsFrom (k + 1) c (genKind k l).2).1, (genKindsFrom (k + 1) c (genKind k l).2).2)
def genKinds (l : List Int) : List Kind × List Int := genKindsFrom 0 (1 + nextV l 4).toNat (nextL l 4)
end Go.Proofs.Ytcfleoaldoebhaa

namespace Go.Proofs.Ytcfleoaldoebhaa
set_option linter.unusedSimpArgs false
set_option linter.unusedVariables false
/-- The values for the first i fields. -/
def vAt (fs : List Field) (l : List Int) : Nat → List Int × List Int
  | 0 => ([], l)
  | i + 1 => match fs[i]? with
    | some f => ((vAt fs l i).1 ++ [f.low + nextV (vAt fs l i).2 (2 ^ f.bits.toNat)], nextL (vAt fs l i).2 (2 ^ f.bits.toNat))
    | none => vAt fs l i
/-- The components of the first i kinds. -/
def cAt (ks : List Kind) (l : List Int) : Nat → List Comp × List Int
  | 0 => ([], l)
  | i + 1 => match ks[i]? with
    | some k => if nextV (cAt ks l i).2 3 = 2 then ((cAt ks l i).1, nextL (cAt ks l i).2 3)
      else ((cAt ks l i).1 ++ [⟨i, (vAt k.fields (nextL (cAt ks l i).2 3) k.fields.length).1⟩], (vAt k.fields (nextL (cAt ks l i).2 3) k.fields.length).2)
    | none => cAt ks l i
def genComps (ks : List Kind) (l : List Int) : List Comp × List Int := cAt ks l ks.length
/-- The generations and items of the first i slots. -/
def wAt (ks : List Kind) (l : List Int) : Nat → List Int × List Item × List Int
  | 0 => ([], [], l)
  | i + 1 =>
    if nextV (nextL (wAt ks l i).2.2 3) 4 = 3 ∨ (wAt ks l i).2.1.length = 8 then ((wAt ks l i).1 ++ [nextV (wAt ks l i).2.2 3], (wAt ks l i).2.1, nextL (nextL (wAt ks l i).2.2 3) 4)
    else ((wAt ks l i).1 ++ [nextV (wAt ks l i).2.2 3], (wAt ks l i).2.1 ++ [⟨⟨i, nextV (wAt ks l i).2.2 3⟩, (genComps ks (nextL (nextL (wAt ks l i).2.2 3) 4)).1⟩], (genComps ks (nextL (nextL (wAt ks l i).2.2 3) 4)).2)
def genWorld (l : List Int) : Wd :=
  ⟨(genKinds l).1, (wAt (genKinds l).1 (nextL (genKinds l).2 12) (nextV (genKinds l).2 12).toNat).1, (wAt (genKinds l).1 (nextL (genKinds l).2 12) (nextV (genKinds l).2 12).toNat).2.1⟩
/-- Fields whose values are small numbers. -/
def FieldOK (f : Field) : Prop := 0 ≤ f.bits ∧ f.bits ≤ 32 ∧ -2147483648 ≤ f.low ∧ f.low ≤ 2147483648
def KindsOK (ks : List Kind) : Prop := ks.length ≤ 1099511627776 ∧ ∀ k ∈ ks, k.fields.length ≤ 1099511627776 ∧ ∀ f ∈ k.fields, FieldOK f
end Go.Proofs.Ytcfleoaldoebhaa

namespace Go.Proofs.Ytcfleoaldoebhaa
set_option linter.unusedSimpArgs false
set_option linter.unusedVariables false
def sysName (n : Nat) : List UInt8 := match n with
  | 0 => [111, 110, 101]
  | 1 => [116, 119, 111]
  | 2 => [116, 104, 114, 101, 101]
  | 3 => [102, 111, 117, 114]
  | 4 => [102, 105, 118, 101]
  | _ => [115, 105, 120]
/-- The number of fields of a kind. -/
def flds (ks : List Kind) (i : Int) : Int := match ks[i.toNat]? with
  | some k => k.fields.length
  | none => 0
/-- The argument that a stream gives, and the stream behind it. -/
def argOf (ks : List Kind) (seen : List Int) (l : List Int) : Arg × List Int :=
  if nextV l 2 = 0 then (⟨false, nextV (nextL l 2) 20 - 6, ⟨0, 0⟩⟩, nextL (nextL l 2) 20)
  else (⟨true, 0, ⟨seen.getD (nextV (nextL l 2) seen.length).toNat 0, nextV (nextL (nextL l 2) seen.length) (flds ks (seen.getD (nextV (nextL l 2) seen.length).toNat 0))⟩⟩,
    nextL (nextL (nextL l 2) seen.length) (flds ks (seen.getD (nextV (nextL l 2) seen.length).toNat 0)))
/-- A reference to a field that there is. -/
def RefOK (ks : List Kind) (r : Ref) : Prop := 0 ≤ r.kind ∧ r.kind < ks.length ∧ 0 ≤ r.field ∧ r.field < flds ks r.kind
def ArgOK (ks : List Kind) (seen : List Int) (a : Arg) : Prop := (a.has = true → a.n = 0 ∧ RefOK ks a.ref ∧ a.ref.kind ∈ seen) ∧ (a.has = false → -6 ≤ a.n ∧ a.n ≤ 13 ∧ a.ref = ⟨0, 0⟩)
def arg0 : Arg := ⟨false, 0, ⟨0, 0⟩⟩
/-- Does an operation use its second argument? -/
def twoOp (d : Int) : Bool := (decide (1 ≤ d) && decide (d ≤ 6)) || decide (d = 12)
structure OpOK (ks : List Kind) (reads writes : List Int) (o : Op) : Prop where
  lo : 0 ≤ o.act
  hi : o.act ≤ 12
  a : ArgOK ks (reads ++ writes) o.a
  b : if twoOp o.act then ArgOK ks (reads ++ writes) o.b else o.b = arg0
  sets : o.act ≤ 7 → RefOK ks o.to ∧ o.to.kind ∈ writes
  puts : o.act = 8 ∨ o.act = 9 → 0 ≤ o.to.kind ∧ o.to.kind < ks.length ∧ o.to.field = 0
  none : 10 ≤ o.act → o.to = ⟨0, 0⟩
/-- The lists of kinds of a system. -/
structure SysL (w1 w2 w3 w4 : List Int) (n : Int) : Prop where
  o1 : w1.Pairwise (· < ·)
  o2 : w2.Pairwise (· < ·)
  o3 : w3.Pairwise (· < ·)
  o4 : w4.Pairwise (· < ·)
  r1 : ∀ x ∈ w1, 0 ≤ x ∧ x < n
  r2 : ∀ x ∈ w2, 0 ≤ x ∧ x < n
  d : ∀ x ∈ w1, x ∉ w2
  s3 : ∀ x ∈ w3, x ∈ w1
  s4 : ∀ x ∈ w4, x ∈ w1
  all : ∀ x ∈ w1, x ∈ w3 ∨ x ∈ w4
structure SysOK (ks : List Kind) (n : Nat) (s : Sys) : Prop where
  name : s.name = sysName n
  lists : SysL s.wth s.wout s.reads s.writes ks.length
  some : s.wth ≠ []
  len : s.ops.length ≤ 5
  ops : ∀ o ∈ s.ops, OpOK ks s.reads s.writes o
  spawn : s.spawn = [] ∨ ∃ q, s.spawn = (genComps ks q).1
theorem SysL.nil (n : Int) : SysL [] [] [] [] n := ⟨.nil, .nil, .nil, .nil, by simp, by simp, by simp, by simp, by simp, by simp⟩
theorem SysL.weaken {w1 w2 w3 w4 : List Int} {n m : Int} (h : SysL w1 w2 w3 w4 n) (hm : n ≤ m) : SysL w1 w2 w3 w4 m :=
  ⟨h.o1, h.o2, h.o3, h.o4, fun x hx => ⟨(h.r1 x hx).1, by have := (h.r1 x hx).2; omega⟩, fun x hx => ⟨(h.r2 x hx).1, by have := (h.r2 x hx).2; omega⟩, h.d, h.s3, h.s4, h.all⟩
theorem pw_snoc {l : List Int} {n : Int} (h : l.Pairwise (· < ·)) (hn : ∀ x ∈ l, x < n) : (l ++ [n]).Pairwise (· < ·) :=
  List.pairwise_append.2 ⟨h, List.pairwise_singleton _ _, fun x hx y hy => by rw [List.mem_singleton.1 hy]; exact hn x hx⟩
theorem SysL.read {w1 w2 w3 w4 : List Int} {n : Int} (h : SysL w1 w2 w3 w4 n) (h0 : 0 ≤ n) : SysL (w1 ++ [n]) w2 (w3 ++ [n]) w4 (n + 1) := by
  refine ⟨pw_snoc h.o1 fun x hx => (h.r1 x hx).2, h.o2, pw_snoc h.o3 fun x hx => (h.r1 x (h.s3 x hx)).2, h.o4, ?_, fun x hx => ⟨(h.r2 x hx).1, by have := (h.r2 x hx).2; omega⟩, ?_, ?_, ?_, ?_⟩
  · intro x hx
    rcases List.mem_append.1 hx with hx | hx
    · have := h.r1 x hx; omega
    · rw [List.mem_singleton.1 hx]; omega
  · intro x hx hx2
    rcases List.mem_append.1 hx with hx | hx
    · exact h.d x hx hx2
    · have := h.r2 x hx2; rw [List.mem_singleton.1 hx] at this; omega
  · intro x hx
    rcases List.mem_append.1 hx with hx | hx
    · simp [h.s3 x hx]
    · simp [List.mem_singleton.1 hx]
  · intro x hx; simp [h.s4 x hx]
  · intro x hx
    rcases List.mem_append.1 hx with hx | hx
    · rcases h.all x hx with h | h <;> simp [h]
    · simp [List.mem_singleton.1 hx]
theorem SysL.write {w1 w2 w3 w4 : List Int} {n : Int} (h : SysL w1 w2 w3 w4 n) (h0 : 0 ≤ n) : SysL (w1 ++ [n]) w2 w3 (w4 ++ [n]) (n + 1) := by
  refine ⟨pw_snoc h.o1 fun x hx => (h.r1 x hx).2, h.o2, h.o3, pw_snoc h.o4 fun x hx => (h.r1 x (h.s4 x hx)).2, ?_, fun x hx => ⟨(h.r2 x hx).1, by have := (h.r2 x hx).2; omega⟩, ?_, ?_, ?_, ?_⟩
  · intro x hx
    rcases List.mem_append.1 hx with hx | hx
    · have := h.r1 x hx; omega
    · rw [List.mem_singleton.1 hx]; omega
  · intro x hx hx2
    rcases List.mem_append.1 hx with hx | hx
    · exact h.d x hx hx2
    · have := h.r2 x hx2; rw [List.mem_singleton.1 hx] at this; omega
  · intro x hx; simp [h.s3 x hx]
  · intro x hx
    rcases List.mem_append.1 hx with hx | hx
    · simp [h.s4 x hx]
    · simp [List.mem_singleton.1 hx]
  · intro x hx
    rcases List.mem_append.1 hx with hx | hx
    · rcases h.all x hx with h | h <;> simp [h]
    · simp [List.mem_singleton.1 hx]
theorem SysL.without {w1 w2 w3 w4 : List Int} {n : Int} (h : SysL w1 w2 w3 w4 n) (h0 : 0 ≤ n) : SysL w1 (w2 ++ [n]) w3 w4 (n + 1) := by
  refine ⟨h.o1, pw_snoc h.o2 fun x hx => (h.r2 x hx).2, h.o3, h.o4, fun x hx => ⟨(h.r1 x hx).1, by have := (h.r1 x hx).2; omega⟩, ?_, ?_, h.s3, h.s4, h.all⟩
  · intro x hx
    rcases List.mem_append.1 hx with hx | hx
    · have := h.r2 x hx; omega
    · rw [List.mem_singleton.1 hx]; omega
  · intro x hx hx2
    rcases List.mem_append.1 hx2 with hx2 | hx2
    · exact h.d x hx hx2
    · have := h.r1 x hx; rw [List.mem_singleton.1 hx2] at this; omega
theorem SysL.zero {w2 w3 w4 : List Int} {n : Int} (h : SysL [] w2 w3 w4 n) (h0 : 1 ≤ n) : SysL [0] (w2.filter fun x => !decide (x = 0)) w3 [0] n := by
  refine ⟨List.pairwise_singleton _ _, h.o2.sublist List.filter_sublist, h.o3, List.pairwise_singleton _ _, by simp; omega, fun x hx => h.r2 x (List.mem_filter.1 hx).1, by simp, ?_, by simp, by simp⟩
  intro x hx
  exact absurd (h.s3 x hx) (by simp)
end Go.Proofs.Ytcfleoaldoebhaa

namespace Go.Proofs.Ytcfleoaldoebhaa
set_option linter.unusedVariables false
def argA (a : Arg) : AV := .agg [bA a.has, iA a.n, iA a.ref.kind, iA a.ref.field]
def opA (o : Op) : AV := .agg [iA o.act, iA o.to.kind, iA o.to.field, bA o.a.has, iA o.a.n, iA o.a.ref.kind, iA o.a.ref.field, bA o.b.has, iA o.b.n, iA o.b.ref.kind, iA o.b.ref.field]
abbrev opsA (o : Bool) (l : List Op) : AV := .lst o 131 11 (l.map opA)
def sysA (o : Bool) (s : Sys) : AV := .agg [sA s.name, intsA o s.wth, intsA o s.wout, intsA o s.reads, intsA o s.writes, opsA o s.ops, compsA o false s.spawn]
abbrev syssA (o : Bool) (l : List Sys) : AV := .lst o 72 7 (l.map (sysA false))
instance {a : Arg} : Frz (argA a) (argA a) := ⟨rfl⟩
instance {o : Op} : Frz (opA o) (opA o) := ⟨rfl⟩
instance {o : Bool} {s : Sys} : Frz (sysA o s) (sysA false s) := ⟨by unfold sysA; exact Frz.h⟩
end Go.Proofs.Ytcfleoaldoebhaa

namespace Go.Proofs.Ytcfleoaldoebhaa
set_option linter.unusedVariables false
def idxF {α : Type} (l : List α) (p : α → Bool) : Int := match l.findIdx? p with
  | some i => i
  | none => -1
theorem idxF_none {α : Type} {l : List α} {p : α → Bool} (h : ∀ j (hj : j < l.length), p l[j] = false) : idxF l p = -1 := by
  have : l.findIdx? p = none := by
    rw [List.findIdx?_eq_none_iff]
    intro x hx
    obtain ⟨j, hj, rfl⟩ := List.getElem_of_mem hx
    exact h j hj
  simp [idxF, this]
theorem idxF_some {α : Type} {l : List α} {p : α → Bool} {i : Nat} (hi : i < l.length) (e : p l[i] = true) (h : ∀ j (hj : j < i), p (l[j]'(by omega)) = false) : idxF l p = i := by
  have : l.findIdx? p = some i := by
    rw [List.findIdx?_eq_some_iff_getElem]
    exact ⟨hi, e, fun j hj => by simpa using h j hj⟩
  simp [idxF, this]
theorem idxF_any {α : Type} (l : List α) (p : α → Bool) : decide ((0 : Int) ≤ idxF l p) = l.any p := by
  unfold idxF
  cases h : l.findIdx? p with
  | none =>
    rw [List.findIdx?_eq_none_iff] at h
    have : l.any p = false := List.any_eq_false.2 fun x hx => by rw [h x hx]; simp
    rw [this]
    rfl
  | some i =>
    obtain ⟨hi, e, _⟩ := List.findIdx?_eq_some_iff_getElem.1 h
    have : l.any p = true := List.any_eq_true.2 ⟨_, List.getElem_mem hi, e⟩
    rw [this]
    simp
theorem idxF_range {α : Type} (l : List α) (p : α → Bool) : -1 ≤ idxF l p ∧ idxF l p < l.length ∧ idxF l p ≤ l.length := by
  unfold idxF
  cases h : l.findIdx? p with
  | none => simp; omega
  | some i =>
    obtain ⟨hi, _⟩ := List.findIdx?_eq_some_iff_getElem.1 h
    simp; omega
end Go.Proofs.Ytcfleoaldoebhaa

namespace Go.Proofs.Ytcfleoaldoebhaa
set_option linter.unusedVariables false
theorem indexFuncI_ps (l : List Int) (f : FuncId) (cap : List AV) (p : Int → Bool) (hs : st1s cap = true) (hl : l.length ≤ 4611686018427387904) (hf : ∀ x ∈ l, PS Try.prog f (iA x :: cap) (bA (p x))) : PS Try.prog 72 [.lst false 3 1 (l.map iA), .fn f cap] (iA (idxF l p)) := by
  refine Spec.of (nt := 19) (res := [.tmp 4]) Try.func72 rfl (by kernel_rfl) rfl rfl rfl fun Sf => ?_
  (repeat (first | refine WK ?_ | refine All.i fun X => ?_ | refine AllY.i fun Y => ?_))
  refine AWP.lp (fun i : Nat => ⟨[(0, .lst false 3 1 (l.map iA)), (1, .fn f cap), (7, iA (l.map iA).length), (8, iA i)], Sf⟩) (fun i => i ≤ l.length ∧ ∀ j (h : j < l.length), j < i → p l[j] = false) (fun i => l.length - i) 0 ⟨Nat.zero_le _, fun j h hj => absurd hj (by omega)⟩ ?_
  rintro i ⟨hi, he⟩
  (repeat (first | refine WK ?_ | refine All.i fun X => ?_ | refine AllY.i fun Y => ?_))
  refine AWP.cond rfl (fun hc => ?_) (fun hc => ?_)
  · have h : i < l.length := by simpa using hc
    (repeat (first | (refine AOps.gN ?_; first | (refine AOps.g_callv ?_; first | refine AOps.k1 (h := (hf _ (List.getElem_mem h))) (k := ?_))) | refine WK ?_ | refine All.i fun X => ?_ | refine AllY.i fun Y => ?_))
    refine AWP.cond rfl (fun hd => ?_) (fun hd => ?_)
    · (repeat (first | refine WK ?_ | refine All.i fun X => ?_ | refine AllY.i fun Y => ?_))
      (refine AWP.ret ?_; (repeat (first | refine inB_r ?_ | refine andThen_r ?_)); refine retQ_r ?_); refine Ends.ps ?_
      rw [idxF_some h hd fun j hj => he j (by omega) hj]
    · (repeat (first | refine WK ?_ | refine All.i fun X => ?_ | refine AllY.i fun Y => ?_))
      refine lp_next (i + 1) ⟨h, fun j h1 h2 => ?_⟩
      by_cases e : j = i
      · subst e; exact hd
      · exact he j h1 (by omega)
  · have h : ¬ i < l.length := by simpa using hc
    (repeat (first | refine WK ?_ | refine All.i fun X => ?_ | refine AllY.i fun Y => ?_))
    (refine AWP.ret ?_; (repeat (first | refine inB_r ?_ | refine andThen_r ?_)); refine retQ_r ?_); refine Ends.ps ?_
    rw [idxF_none fun j hj => he j hj (by omega)]
theorem containsFuncI_ps (l : List Int) (f : FuncId) (cap : List AV) (p : Int → Bool) (hs : st1s cap = true) (hl : l.length ≤ 4611686018427387904) (hf : ∀ x ∈ l, PS Try.prog f (iA x :: cap) (bA (p x))) : PS Try.prog 51 [.lst false 3 1 (l.map iA), .fn f cap] (bA (l.any p)) := by
  refine Spec.of (nt := 9) (res := [.tmp 4]) Try.func51 rfl (by kernel_rfl) rfl rfl rfl fun Sf => ?_
  (repeat (first | (refine AOps.gN ?_; first | (refine AOps.g_callf ?_; first | refine AOps.c2 (h := (indexFuncI_ps l f cap p hs hl hf)) (k := ?_))) | refine WK ?_ | refine All.i fun X => ?_ | refine AllY.i fun Y => ?_))
  (refine AWP.ret ?_; (repeat (first | refine inB_r ?_ | refine andThen_r ?_)); refine retQ_r ?_); refine Ends.ps ?_
  rw [← idxF_any]
end Go.Proofs.Ytcfleoaldoebhaa

namespace Go.Proofs.Ytcfleoaldoebhaa
set_option linter.unusedVariables false
theorem indexI_ps (l : List Int) (x : Int) (hl : l.length ≤ 4611686018427387904) : PS Try.prog 73 [intsA false l, iA x] (iA (idxF l fun y => decide (x = y))) := by
  refine Spec.of (nt := 19) (res := [.tmp 4]) Try.func73 rfl (by kernel_rfl) rfl rfl rfl fun Sf => ?_
  (repeat (first | refine WK ?_ | refine All.i fun X => ?_ | refine AllY.i fun Y => ?_))
  refine AWP.lp (fun i : Nat => ⟨[(0, intsA false l), (1, iA x), (7, iA (l.map iA).length), (8, iA i)], Sf⟩) (fun i => i ≤ l.length ∧ ∀ j (h : j < l.length), j < i → (decide (x = l[j])) = false) (fun i => l.length - i) 0 ⟨Nat.zero_le _, fun j h hj => absurd hj (by omega)⟩ ?_
  rintro i ⟨hi, he⟩
  (repeat (first | refine WK ?_ | refine All.i fun X => ?_ | refine AllY.i fun Y => ?_))
  refine AWP.cond rfl (fun hc => ?_) (fun hc => ?_)
  · have h : i < l.length := by simpa using hc
    (repeat (first | refine WK ?_ | refine All.i fun X => ?_ | refine AllY.i fun Y => ?_))
    refine AWP.cond rfl (fun hd => ?_) (fun hd => ?_)
    · (repeat (first | refine WK ?_ | refine All.i fun X => ?_ | refine AllY.i fun Y => ?_))
      (refine AWP.ret ?_; (repeat (first | refine inB_r ?_ | refine andThen_r ?_)); refine retQ_r ?_); refine Ends.ps ?_
      rw [idxF_some h hd fun j hj => he j (by omega) hj]
    · (repeat (first | refine WK ?_ | refine All.i fun X => ?_ | refine AllY.i fun Y => ?_))
      refine lp_next (i + 1) ⟨h, fun j h1 h2 => ?_⟩
      by_cases e : j = i
      · subst e; exact hd
      · exact he j h1 (by omega)
  · have h : ¬ i < l.length := by simpa using hc
    (repeat (first | refine WK ?_ | refine All.i fun X => ?_ | refine AllY.i fun Y => ?_))
    (refine AWP.ret ?_; (repeat (first | refine inB_r ?_ | refine andThen_r ?_)); refine retQ_r ?_); refine Ends.ps ?_
    rw [idxF_none fun j hj => he j hj (by omega)]
theorem containsI_ps (l : List Int) (x : Int) (hl : l.length ≤ 4611686018427387904) : PS Try.prog 53 [intsA false l, iA x] (bA (l.contains x)) := by
  refine Spec.of (nt := 9) (res := [.tmp 4]) Try.func53 rfl (by kernel_rfl) rfl rfl rfl fun Sf => ?_
  (repeat (first | (refine AOps.gN ?_; first | (refine AOps.g_callf ?_; first | refine AOps.c2 (h := (indexI_ps l x hl)) (k := ?_))) | refine WK ?_ | refine All.i fun X => ?_ | refine AllY.i fun Y => ?_))
  (refine AWP.ret ?_; (repeat (first | refine inB_r ?_ | refine andThen_r ?_)); refine retQ_r ?_); refine Ends.ps ?_
  have h2 : decide ((0 : Int) ≤ idxF l fun y => decide (x = y)) = l.contains x := by
    rw [idxF_any, List.contains_eq_any_beq]
    congr 1
  rw [← h2]
end Go.Proofs.Ytcfleoaldoebhaa

namespace Go.Proofs.Ytcfleoaldoebhaa
set_option linter.unusedVariables false
def hits (x y : List Int) : Bool := x.any fun k => y.contains k
def confl (a b : Sys) : Bool := hits a.writes b.writes || hits a.writes b.reads || hits a.reads b.writes
theorem conf11_ps (y : List Int) (k : Int) (hl : y.length ≤ 4611686018427387904) : PS Try.prog 52 [iA k, .fp [intsA false y]] (bA (y.contains k)) := by
  refine Spec.of (nt := 7) (res := [.tmp 3]) Try.func52 rfl (by kernel_rfl) rfl rfl rfl fun Sf => ?_
  (repeat (first | (refine AOps.gN ?_; first | (refine AOps.g_callf ?_; first | refine AOps.c2 (h := (containsI_ps y k hl)) (k := ?_))) | refine WK ?_ | refine All.i fun X => ?_ | refine AllY.i fun Y => ?_))
  (refine AWP.ret ?_; (repeat (first | refine inB_r ?_ | refine andThen_r ?_)); refine retQ_r ?_); refine Ends.ps ?_
  rfl
theorem conf1_ps (x y : List Int) (hx : x.length ≤ 4611686018427387904) (hl : y.length ≤ 4611686018427387904) : PS Try.prog 50 [intsA false x, intsA false y] (bA (hits x y)) := by
  refine Spec.of (nt := 8) (res := [.tmp 4]) Try.func50 rfl (by kernel_rfl) rfl rfl rfl fun Sf => ?_
  (repeat (first | (refine AOps.gN ?_; first | (refine AOps.g_callf ?_; first | refine AOps.c2 (h := (containsFuncI_ps x 52 [.fp [intsA false y]] (fun k => y.contains k) rfl hx (fun k _ => conf11_ps y k hl))) (k := ?_)) | (refine AOps.g_box ?_; refine AOps.goB ?_)) | refine WK ?_ | refine All.i fun X => ?_ | refine AllY.i fun Y => ?_))
  (refine AWP.ret ?_; (repeat (first | refine inB_r ?_ | refine andThen_r ?_)); refine retQ_r ?_); refine Ends.ps ?_
  rfl
/-- A system whose lists are small. -/
def SysSm (s : Sys) : Prop := s.reads.length ≤ 4611686018427387904 ∧ s.writes.length ≤ 4611686018427387904
theorem conflict_ps (a b : Sys) (ha : SysSm a) (hb : SysSm b) : PS Try.prog 33 [sysA false a, sysA false b] (bA (confl a b)) := by
  have c1 := conf1_ps a.writes b.writes ha.2 hb.2
  have c2 := conf1_ps a.writes b.reads ha.2 hb.1
  have c3 := conf1_ps a.reads b.writes ha.1 hb.2
  unfold confl
  obtain ⟨b1, e1⟩ : ∃ x, hits a.writes b.writes = x := ⟨_, rfl⟩
  obtain ⟨b2, e2⟩ : ∃ x, hits a.writes b.reads = x := ⟨_, rfl⟩
  obtain ⟨b3, e3⟩ : ∃ x, hits a.reads b.writes = x := ⟨_, rfl⟩
  rw [e1] at c1 ⊢
  rw [e2] at c2 ⊢
  rw [e3] at c3 ⊢
  refine Spec.of (nt := 28) (res := [.tmp 4]) Try.func33 rfl (by kernel_rfl) rfl rfl rfl fun Sf => ?_
  cases b1
  · cases b2
    · (repeat (first | (refine AOps.gN ?_; first | (refine AOps.g_callv ?_; first | refine AOps.k2 (h := (c1 ..)) (k := ?_) | refine AOps.k2 (h := (c2 ..)) (k := ?_) | refine AOps.k2 (h := (c3 ..)) (k := ?_)) | (refine AOps.g_box ?_; refine AOps.goB ?_)) | refine WK ?_ | refine All.i fun X => ?_ | refine AllY.i fun Y => ?_))
      (refine AWP.ret ?_; (repeat (first | refine inB_r ?_ | refine andThen_r ?_)); refine retQ_r ?_); refine Ends.ps ?_
      rfl
    · (repeat (first | (refine AOps.gN ?_; first | (refine AOps.g_callv ?_; first | refine AOps.k2 (h := (c1 ..)) (k := ?_) | refine AOps.k2 (h := (c2 ..)) (k := ?_) | refine AOps.k2 (h := (c3 ..)) (k := ?_)) | (refine AOps.g_box ?_; refine AOps.goB ?_)) | refine WK ?_ | refine All.i fun X => ?_ | refine AllY.i fun Y => ?_))
      (refine AWP.ret ?_; (repeat (first | refine inB_r ?_ | refine andThen_r ?_)); refine retQ_r ?_); refine Ends.ps ?_
      rfl
  · (repeat (first | (refine AOps.gN ?_; first | (refine AOps.g_callv ?_; first | refine AOps.k2 (h := (c1 ..)) (k := ?_) | refine AOps.k2 (h := (c2 ..)) (k := ?_) | refine AOps.k2 (h := (c3 ..)) (k := ?_)) | (refine AOps.g_box ?_; refine AOps.goB ?_)) | refine WK ?_ | refine All.i fun X => ?_ | refine AllY.i fun Y => ?_))
    (refine AWP.ret ?_; (repeat (first | refine inB_r ?_ | refine andThen_r ?_)); refine retQ_r ?_); refine Ends.ps ?_
    rfl
def confAt (ls : List Sys) (j i : Nat) : Bool := match ls[j]?, ls[i]? with
  | some a, some b => confl a b
  | _, _ => false
theorem confAt_eq {ls : List Sys} {i j : Nat} (hi : i < ls.length) (hj : j < ls.length) : confAt ls j i = confl ls[j] ls[i] := by
  simp [confAt, hi, hj]
/-- The depth of the i-th system, looking at those below j. -/
def accTo (ls : List Sys) (pre : List Int) (i : Nat) : Nat → Int
  | 0 => 1
  | j + 1 => if confAt ls j i then max (accTo ls pre i j) (pre.getD j 0 + 1) else accTo ls pre i j
def depL (ls : List Sys) : Nat → List Int
  | 0 => []
  | i + 1 => depL ls i ++ [accTo ls (depL ls i) i i]
theorem depL_len (ls : List Sys) (i : Nat) : (depL ls i).length = i := by
  induction i with
  | zero => rfl
  | succ i ih => simp [depL, ih]
theorem accTo_le {ls : List Sys} {pre : List Int} {n : Int} (hn : 0 ≤ n) (h : ∀ x ∈ pre, 1 ≤ x ∧ x ≤ n) (i : Nat) : ∀ j, j ≤ pre.length → 1 ≤ accTo ls pre i j ∧ accTo ls pre i j ≤ n + 1 := by
  intro j
  induction j with
  | zero => intro _; simp [accTo]; omega
  | succ j ih =>
    intro hj
    have := ih (by omega)
    rw [accTo]
    split
    · have hx := h (pre.getD j 0) (by simp [show j < pre.length by omega])
      omega
    · exact this
theorem depL_le (ls : List Sys) (i : Nat) : ∀ x ∈ depL ls i, 1 ≤ x ∧ x ≤ i := by
  induction i with
  | zero => intro x hx; cases hx
  | succ i ih =>
    intro x hx
    rw [depL] at hx
    rcases List.mem_append.1 hx with hx | hx
    · have := ih x hx; omega
    · rw [List.mem_singleton.1 hx]
      have := accTo_le (ls := ls) (n := i) (by omega) ih i i (by rw [depL_len]; omega)
      omega
theorem set_mid (a b : List Int) (x y : Int) : ((a ++ x :: b).map iA).set a.length (iA y) = (a ++ y :: b).map iA := by
  rw [← List.map_set (f := iA), List.set_append_right _ _ (Nat.le_refl _), Nat.sub_self]; rfl
theorem get_mid (a b : List Int) (x : Int) : ((a ++ x :: b).map iA)[a.length]? = some (iA x) := by
  rw [List.getElem?_map, List.getElem?_append_right (Nat.le_refl _), Nat.sub_self]; rfl
theorem depths_ps (ls : List Sys) (hl : ls.length ≤ 1099511627776) (hs : ∀ s ∈ ls, SysSm s) : PS Try.prog 54 [syssA false ls] (intsA true (depL ls ls.length)) := by
  refine Spec.of (nt := 46) (res := [.tmp 2]) Try.func54 rfl (by kernel_rfl) rfl rfl rfl fun Sf => ?_
  have hlm : (ls.map (sysA false)).length ≤ 1099511627776 := by simpa using hl
  (repeat (first | (refine AOps.gN ?_; first | (refine AOps.g_make ?_; refine AOps.goM (iA 0) fun K => ?_)) | refine WK ?_ | refine All.i fun X => ?_ | refine AllY.i fun Y => ?_))
  have hrep : List.replicate (ls.map (sysA false)).length (iA 0) = (List.replicate ls.length (0 : Int)).map iA := by rw [List.map_replicate, List.length_map]
  rw [hrep]
  refine AWP.lp2 (fun (i : Nat) (K' : List AV) => ⟨[(0, syssA false ls), (3, .sl K 0 (ls.map (sysA false)).length), (10, iA (ls.map (sysA false)).length), (11, iA i)], (K, .row 3 1 K') :: Sf⟩) (fun i K' => i ≤ ls.length ∧ K' = (depL ls i ++ List.replicate (ls.length - i) 0).map iA) (fun i _ => ls.length - i) 0 _ ⟨Nat.zero_le _, rfl⟩ ?_
  rintro i K' ⟨hi, rfl⟩
  (repeat (first | refine WK ?_ | refine All.i fun X => ?_ | refine AllY.i fun Y => ?_))
  refine AWP.cond rfl (fun hc => ?_) (fun hc => ?_)
  · have h : i < ls.length := by simpa using hc
    have hd := depL_len ls i
    have hdl := depL_le ls i
    have e0 : (depL ls i ++ List.replicate (ls.length - i) 0) = depL ls i ++ 0 :: List.replicate (ls.length - i - 1) 0 := by
      congr 1
      rw [show ls.length - i = (ls.length - i - 1) + 1 by omega, List.replicate_succ]; rfl
    have hsm := set_mid (depL ls i) (List.replicate (ls.length - i - 1) 0)
    rw [hd] at hsm
    have hgm := get_mid (depL ls i) (List.replicate (ls.length - i - 1) 0)
    rw [hd] at hgm
    have hg0 := hgm 0
    rw [e0]
    (repeat (first | refine WK ?_ | refine All.i fun X => ?_ | refine AllY.i fun Y => ?_))
    refine AWP.lp2 (fun (j : Nat) (K' : List AV) => ⟨[(0, syssA false ls), (3, .sl K 0 (ls.map (sysA false)).length), (4, iA i), (10, iA (ls.map (sysA false)).length), (11, iA i), (17, iA i), (18, iA j)], (K, .row 3 1 K') :: Sf⟩) (fun j K' => j ≤ i ∧ K' = (depL ls i ++ accTo ls (depL ls i) i j :: List.replicate (ls.length - i - 1) 0).map iA) (fun j _ => i - j) 0 _ ⟨Nat.zero_le _, hsm 0 1⟩ ?_
    rintro j K' ⟨hj, rfl⟩
    have hac := accTo_le (ls := ls) (n := i) (by omega) hdl i j (by rw [hd]; exact hj)
    (repeat (first | refine WK ?_ | refine All.i fun X => ?_ | refine AllY.i fun Y => ?_))
    refine AWP.cond rfl (fun he => ?_) (fun he => ?_)
    · have hj' : j < i := by rw [decide_eq_true_eq] at he; omega
      have hjl : j < ls.length := by omega
      have hjd : j < (depL ls i).length := by omega
      obtain ⟨y, hy⟩ : ∃ y, (depL ls i)[j] = y := ⟨_, rfl⟩
      have hyb := hdl _ (List.getElem_mem hjd)
      rw [hy] at hyb
      have hca := confAt_eq (ls := ls) h hjl
      have hcf := conflict_ps ls[j] ls[i] (hs _ (List.getElem_mem hjl)) (hs _ (List.getElem_mem h))
      obtain ⟨b, hb⟩ : ∃ b, confl ls[j] ls[i] = b := ⟨_, rfl⟩
      rw [hb] at hca hcf
      obtain ⟨ac, hacc⟩ : ∃ ac, accTo ls (depL ls i) i j = ac := ⟨_, rfl⟩
      rw [hacc] at hac ⊢
      have hgi := hgm ac
      have hgj : ((depL ls i ++ ac :: List.replicate (ls.length - i - 1) 0).map iA)[j]? = some (iA y) := by
        rw [List.getElem?_map, List.getElem?_append_left hjd, List.getElem?_eq_getElem hjd, hy]; rfl
      have hnx : accTo ls (depL ls i) i (j + 1) = if b then max ac (y + 1) else ac := by
        rw [accTo, hca, hacc]; simp [List.getD, hjd, hy]
      (repeat (first | refine WK ?_ | refine All.i fun X => ?_ | refine AllY.i fun Y => ?_))
      (repeat refine WF ?_); refine AWP.region_run (by kernel_rfl) (by kernel_rfl) ?_; (repeat (first | (refine RGo.gN ?_; first | (refine RGo.g_callf ?_; first | refine RGo.c2 (h := (hcf ..)) (k := ?_))) | (refine RGo.gQ ?_; first | (refine RGo.g_callf ?_; first | refine RGo.c2 (h := (hcf ..)) (k := ?_))) | refine RK ?_ | refine RGo.nil (by kernel_rfl) ?_))
      cases b
      · refine AWP.cond_f rfl rfl ?_
        (repeat (first | refine WK ?_ | refine All.i fun X => ?_ | refine AllY.i fun Y => ?_))
        refine lp_next2 (j + 1) _ ⟨hj', ?_⟩
        rw [hnx]; rfl
      · refine AWP.cond_t rfl rfl ?_
        (repeat refine WF ?_); refine AWP.region_run (by kernel_rfl) (by kernel_rfl) ?_; (repeat (first | refine RK ?_ | refine RGo.nil (by kernel_rfl) ?_))
        (repeat (first | refine WK ?_ | refine All.i fun X => ?_ | refine AllY.i fun Y => ?_))
        refine lp_next2 (j + 1) _ ⟨hj', ?_⟩
        rw [hnx, if_pos rfl, show max ac (y + 1) = if ac < y + 1 then y + 1 else ac by split <;> omega]
        exact hsm ac _
    · have hj' : j = i := by rw [decide_eq_false_iff_not] at he; omega
      subst hj'
      (repeat (first | refine WK ?_ | refine All.i fun X => ?_ | refine AllY.i fun Y => ?_))
      refine lp_next2 (j + 1) _ ⟨h, ?_⟩
      rw [depL, List.append_assoc]
      rfl
  · have h : i = ls.length := by rw [decide_eq_false_iff_not, List.length_map] at hc; omega
    subst h
    rw [Nat.sub_self, List.replicate_zero, List.append_nil]
    (repeat (first | refine WK ?_ | refine All.i fun X => ?_ | refine AllY.i fun Y => ?_))
    (refine AWP.ret ?_; (repeat (first | refine inB_r ?_ | refine andThen_r ?_)); refine retQ_r ?_)
    exact ⟨[.sl K 0 (ls.map (sysA false)).length], [intsA true (depL ls ls.length)], _, [], .cons (.tmp rfl) rfl .nil, .cons (.cell (.sl (p := 0) .here (by simp [depL_len]))) .nil, by exact Sub.f, rfl, rfl⟩
end Go.Proofs.Ytcfleoaldoebhaa

namespace Go.Proofs.Ytcfleoaldoebhaa
set_option linter.unusedVariables false
/-- The layers that the first i systems are put into. -/
def layTo (ds : List Int) : Nat → List (List Int)
  | 0 => []
  | i + 1 => match ds[i]? with
    | some d => ((layTo ds i ++ List.replicate (d.toNat - (layTo ds i).length) []).modify (d.toNat - 1) (· ++ [(i : Int)]))
    | none => layTo ds i
abbrev lay1 (o : Bool) (l : List Int) : AV := .lst o 3 1 (l.map iA)
abbrev layA (o o' : Bool) (l : List (List Int)) : AV := .lst o 35 1 (l.map (lay1 o'))
theorem mem_modify {α : Type} {L : List α} {k : Nat} {g : α → α} {x : α} (h : x ∈ L.modify k g) : x ∈ L ∨ ∃ y ∈ L, x = g y := by
  obtain ⟨q, hq, rfl⟩ := List.getElem_of_mem h
  rw [List.length_modify] at hq
  rw [List.getElem_modify]
  split
  · exact .inr ⟨_, List.getElem_mem hq, rfl⟩
  · exact .inl (List.getElem_mem hq)
theorem set_modify {α β : Type} (f : α → β) (g : α → α) {L : List α} {k : Nat} (h : k < L.length) : (L.map f).set k (f (g L[k])) = (L.modify k g).map f := by
  apply List.ext_getElem (by simp)
  intro q h1 h2
  rw [List.getElem_map, List.getElem_modify, List.getElem_set]
  split
  · rename_i e; subst e; rfl
  · rw [List.getElem_map]
theorem layTo_el (ds : List Int) (i : Nat) : ∀ x ∈ layTo ds i, x.length ≤ i := by
  induction i with
  | zero => intro x hx; cases hx
  | succ i ih =>
    intro x hx
    rw [layTo] at hx
    split at hx
    · rcases mem_modify hx with h | ⟨y, h, rfl⟩
      · rcases List.mem_append.1 h with h | h
        · have := ih x h; omega
        · rw [List.eq_of_mem_replicate h]; simp
      · rcases List.mem_append.1 h with h | h
        · have := ih y h; simp; omega
        · rw [List.eq_of_mem_replicate h]; simp
    · have := ih x hx; omega
theorem layers_ps (ls : List Sys) (hl : ls.length ≤ 24) (hs : ∀ s ∈ ls, SysSm s) : PS Try.prog 34 [syssA false ls] (.tup [layA true true (layTo (depL ls ls.length) ls.length), iA 0]) := by
  refine Spec.of (nt := 39) (res := [.tmp 2, .tmp 3]) Try.func34 rfl (by kernel_rfl) rfl rfl rfl fun Sf => ?_
  have hdp := depths_ps ls (by omega) hs
  have hdl := depL_len ls ls.length
  have hdb := depL_le ls ls.length
  obtain ⟨ds, hds⟩ : ∃ ds, depL ls ls.length = ds := ⟨_, rfl⟩
  obtain ⟨n, hn⟩ : ∃ n, ls.length = n := ⟨_, rfl⟩
  rw [hds] at hdp hdl hdb ⊢
  have hlm : (ls.map (sysA false)).length = n := by rw [List.length_map, hn]
  rw [hn] at hdl hdb hl ⊢
  (repeat (first | refine WK ?_ | refine All.i fun X => ?_ | refine AllY.i fun Y => ?_))
  refine AWP.cond_f rfl (decide_eq_false (by omega)) ?_
  (repeat refine WF ?_); refine AWP.region ?_; (repeat (first | refine WO ?_ | refine All.i fun X => ?_ | refine AllY.i fun Y => ?_)); refine AOps.nil ?_; (repeat refine WN ?_)
  refine AWP.adopt (d := 4) 35 1 rfl fun K => ?_
  (repeat refine WF ?_); refine AWP.region ?_; (repeat (first | (refine AOps.gN ?_; first | (refine AOps.g_callf ?_; first | refine AOps.c1 (h := (hdp ..)) (k := ?_))) | refine WO ?_ | refine All.i fun X => ?_ | refine AllY.i fun Y => ?_)); refine AOps.nil ?_; (repeat refine WN ?_)
  (repeat first | refine AOps.nil ?_ | refine WF ?_)
  refine AWP.lp4 (fun (i K m : Nat) (M : List AV) => ⟨[(4, .sl K 0 m), (11, intsA false ds), (12, iA (ds.map iA).length), (13, iA i)], (K, .row 35 1 M) :: Sf⟩) (fun i _ m M => i ≤ n ∧ m = M.length ∧ M = (layTo ds i).map (lay1 true) ∧ m ≤ n) (fun i _ _ _ => n - i) 0 K 0 [] ⟨Nat.zero_le _, rfl, rfl, Nat.zero_le _⟩ ?_
  rintro i K m M ⟨hi, hm, hM, hmn⟩
  (repeat (first | refine WK ?_ | refine All.i fun X => ?_ | refine AllY.i fun Y => ?_))
  refine AWP.cond rfl (fun hc => ?_) (fun hc => ?_)
  · have h : i < n := by rw [decide_eq_true_eq, List.length_map] at hc; omega
    have hid : i < ds.length := by omega
    obtain ⟨d, hd⟩ : ∃ d : Nat, ds[i] = d := ⟨ds[i].toNat, by have := hdb _ (List.getElem_mem hid); omega⟩
    have hdr := hdb _ (List.getElem_mem hid)
    rw [hd] at hdr
    have hat : (ds.map iA)[i]? = some (iA d) := by rw [List.getElem?_map, List.getElem?_eq_getElem hid, hd]; rfl
    (repeat (first | refine WK ?_ | refine All.i fun X => ?_ | refine AllY.i fun Y => ?_))
    refine AWP.lp4 (fun (j K m : Nat) (M : List AV) => ⟨[(4, .sl K 0 m), (5, iA i), (6, iA d), (11, intsA false ds), (12, iA (ds.map iA).length), (13, iA i)], (K, .row 35 1 M) :: Sf⟩) (fun j _ m M => m = M.length ∧ M = (layTo ds i ++ List.replicate j []).map (lay1 true) ∧ m ≤ n ∧ (0 < j → m ≤ d)) (fun _ _ m _ => d - m) 0 K m M ⟨hm, by simpa using hM, hmn, fun h0 => absurd h0 (by omega)⟩ ?_
    clear hm hM hmn K m M
    rintro j K m M ⟨hm, hM, hmn, hmd⟩
    (repeat (first | refine WK ?_ | refine All.i fun X => ?_ | refine AllY.i fun Y => ?_))
    refine AWP.cond rfl (fun he => ?_) (fun he => ?_)
    · have he : m < d := by rw [decide_eq_true_eq] at he; omega
      have hm1 : m + 1 ≤ 1099511627776 := by omega
      (repeat refine WF ?_); refine AWP.region ?_; (repeat (first | refine WO ?_ | refine All.i fun X => ?_ | refine AllY.i fun Y => ?_))
      have hx : (M ++ [AV.prim (.slice none 0 0)])[M.length]? = some (.prim (.slice none 0 0)) := by simp
      refine AOps.nilO (Y := Y) 3 1 (Ics.at hx (.base .nil)) ?_
      (repeat (first | refine WK ?_ | refine All.i fun X => ?_ | refine AllY.i fun Y => ?_))
      refine lp_next4 (j + 1) Y (m + 1) _ ⟨?_, ?_, by omega, fun _ => by omega⟩
      · rw [List.length_set, List.length_append, hm]; rfl
      · rw [List.set_append_right _ _ (Nat.le_refl _), Nat.sub_self, List.replicate_succ', ← List.append_assoc, List.map_append, ← hM]; rfl
    · have he : d ≤ m := by rw [decide_eq_false_iff_not] at he; omega
      obtain ⟨LL, hLL⟩ : ∃ LL, layTo ds i ++ List.replicate j [] = LL := ⟨_, rfl⟩
      have hlm2 : LL.length = m := by rw [hm, hM, List.length_map, hLL]
      have hjl : List.replicate j ([] : List Int) = List.replicate (d - (layTo ds i).length) [] := by
        congr 1
        have : m = (layTo ds i).length + j := by rw [← hlm2, ← hLL]; simp
        rcases Nat.eq_zero_or_pos j with h0 | h0
        · omega
        · have := hmd h0; omega
      have hnext : layTo ds (i + 1) = LL.modify (d - 1) (· ++ [(i : Int)]) := by
        rw [layTo, List.getElem?_eq_getElem hid, hd]
        simp only [Int.toNat_natCast]
        rw [← hjl, hLL]
      rw [hLL] at hM
      have hdl1 : d - 1 < LL.length := by omega
      have hk : M[d - 1]? = some (lay1 true LL[d - 1]) := by rw [hM, List.getElem?_map, List.getElem?_eq_getElem hdl1]; rfl
      refine AWP.thawAt K (d - 1) hk fun A => ?_
      have hlk : d - 1 < M.length := by omega
      have hk2 : (M.set (d - 1) (.sl A 0 (LL[d - 1].map iA).length))[d - 1]? = some (.sl A 0 (LL[d - 1].map iA).length) := by rw [List.getElem?_set_self hlk]
      have hkm : d - 1 < m := by omega
      have hap : (LL[d - 1].map iA).length + 1 ≤ 1099511627776 := by
        have := layTo_el ds i LL[d - 1]
        rw [List.length_map]
        have hmem : LL[d - 1] ∈ layTo ds i ++ List.replicate j [] := by rw [hLL]; exact List.getElem_mem hdl1
        rcases List.mem_append.1 hmem with h1 | h1
        · have := this h1; omega
        · rw [List.eq_of_mem_replicate h1]; simp
      (repeat refine WF ?_); refine AWP.region ?_; (repeat (first | (refine AOps.gN ?_; first | refine AOps.p (W.subE ((d - 1 : Nat) : Int) (by omega) (by omega) rfl rfl) rfl ?_) | refine WO ?_ | refine All.i fun X => ?_ | refine AllY.i fun Y => ?_))
      have hk3 : ((M.set (d - 1) (.sl A 0 (LL[d - 1].map iA).length)).set (d - 1) (.sl Y 0 ((LL[d - 1].map iA).length + 1)))[d - 1]? = some (.sl Y 0 ((LL[d - 1].map iA).length + 1)) := by rw [List.getElem?_set_self (by rw [List.length_set]; exact hlk)]
      refine AOps.closeAt Y K (d - 1) hk3 ?_
      (repeat (first | refine WK ?_ | refine All.i fun X => ?_ | refine AllY.i fun Y => ?_))
      refine lp_next4 (i + 1) K m _ ⟨h, ?_, ?_, hmn⟩
      · rw [List.length_set, List.length_set, List.length_set, hm]
      · rw [List.set_set, List.set_set, hnext, hM, ← set_modify (lay1 true) (· ++ [(i : Int)]) hdl1]
        congr 1
        show _ = lay1 true (LL[d - 1] ++ [(i : Int)])
        unfold lay1
        rw [List.map_append]
        rfl
  · have h : i = n := by rw [decide_eq_false_iff_not, List.length_map] at hc; omega
    subst h
    (repeat (first | refine WK ?_ | refine All.i fun X => ?_ | refine AllY.i fun Y => ?_))
    (refine AWP.ret ?_; (repeat (first | refine inB_r ?_ | refine andThen_r ?_)); refine retQ_r ?_)
    subst hM
    exact ⟨[.sl K 0 m, iA 0], [layA true true (layTo ds i), iA 0], _, [], .cons (.tmp rfl) rfl (.cons (.tmp rfl) rfl .nil), .cons (.cell (.sl (p := 0) .here hm)) (.cons (.cell .same) .nil), by exact Sub.f, rfl, rfl⟩
end Go.Proofs.Ytcfleoaldoebhaa

namespace Go.Proofs.Ytcfleoaldoebhaa
set_option linter.unusedVariables false
def argX : Arg := ⟨true, 0, ⟨0, 0⟩⟩
def olderS : Sys := ⟨[111, 108, 100, 101, 114], [0], [], [], [0], [⟨1, ⟨0, 0⟩, argX, ⟨false, 1, ⟨0, 0⟩⟩⟩, ⟨12, ⟨0, 0⟩, ⟨false, 1, ⟨0, 0⟩⟩, argX⟩], []⟩
theorem older_ps : PS Try.prog 48 [] (sysA false olderS) := by
  refine Spec.of (nt := 13) (res := [.cell 0 72]) Try.func48 rfl (by kernel_rfl) rfl rfl rfl fun Sf => ?_
  (repeat refine WF ?_); refine AWP.region ?_; (repeat (first | refine WO ?_ | refine All.i fun R => ?_ | refine AllY.i fun Y => ?_)); refine AOps.nil ?_; (repeat refine WN ?_)
  (repeat (first | refine WK ?_ | refine All.i fun X => ?_ | refine AllY.i fun Y => ?_))
  refine AWP.nilIn 3 1 (Y := R) (.cons (.agg (.cons .same (.cons .same (.cons (.base .nil) (.cons (.base .nil) (.cons .same (.cons .same (.cons .same .nil)))))))) .nil) ?_
  refine AWP.nilIn 58 2 (Y := R) (.cons (.agg (.cons .same (.cons .same (.cons .same (.cons .same (.cons .same (.cons .same (.cons (.base .nil) .nil)))))))) .nil) ?_
  (refine AWP.ret ?_; (repeat (first | refine inB_r ?_ | refine andThen_r ?_)); refine retQ_r ?_)
  exact Ends.id (rs := [sysA false olderS]) rfl (.cons (.cell rfl (by exact At.f) TAg.h TSize.h rfl rfl) rfl .nil)
theorem layered_ps : PS Try.prog 31 [] (bA true) := by
  have hl := layers_ps [olderS, olderS] (by decide) (by intro s hs; simp at hs; subst hs; exact ⟨by decide, by decide⟩)
  have h1 : layTo (depL [olderS, olderS] 2) 2 = [[0], [1]] := by decide
  rw [show ([olderS, olderS] : List Sys).length = 2 from rfl, h1] at hl
  refine Spec.of (nt := 17) (res := [.tmp 0]) Try.func31 rfl (by kernel_rfl) rfl rfl rfl fun Sf => ?_
  (repeat (first | (refine AOps.gN ?_; first | (refine AOps.g_callf ?_; first | refine AOps.c0 (h := (older_ps ..)) (k := ?_) | refine AOps.c1 (h := (hl ..)) (k := ?_))) | refine WK ?_ | refine All.i fun X => ?_ | refine AllY.i fun Y => ?_))
  (refine AWP.ret ?_; (repeat (first | refine inB_r ?_ | refine andThen_r ?_)); refine retQ_r ?_); refine Ends.ps ?_
  rfl
end Go.Proofs.Ytcfleoaldoebhaa

namespace Go.Proofs.Ytcfleoaldoebhaa
set_option linter.unusedVariables false
theorem below_ps (x n : Int) (hn : 1 ≤ n) (h2 : n ≤ 4611686018427387904) : PS Try.prog 19 [iA x, iA n] (iA (x % n)) := by
  refine Spec.of (nt := 14) (res := [.tmp 4]) Try.func19 rfl (by kernel_rfl) rfl rfl rfl fun Sf => ?_
  have h3 : x.tmod n < n := Int.tmod_lt_of_pos _ (by omega)
  have h4 : -n < x.tmod n := by
    have := Int.lt_tmod_of_pos x (b := n) (by omega)
    exact this
  have h5 : x.tmod n = x % n ∨ x.tmod n + n = x % n ∧ x.tmod n < 0 := by
    rw [Int.tmod_eq_emod]
    split
    · exact .inl (by simp)
    · have := Int.emod_nonneg x (b := n) (by omega)
      have := Int.emod_lt_of_pos x (b := n) (by omega)
      refine .inr ?_
      have : ((n.natAbs : Nat) : Int) = n := by omega
      omega
  have h6 := Int.emod_nonneg x (b := n) (by omega)
  (repeat (first | (refine AOps.gN ?_; first | refine AOps.p (W.rem rfl rfl (by omega)) rfl ?_) | refine WK ?_ | refine All.i fun X => ?_ | refine AllY.i fun Y => ?_))
  refine AWP.cond rfl (fun hb => ?_) (fun hb => ?_)
  · have hb : x.tmod n < 0 := by simpa using hb
    (repeat (first | refine WK ?_ | refine All.i fun X => ?_ | refine AllY.i fun Y => ?_))
    (refine AWP.ret ?_; (repeat (first | refine inB_r ?_ | refine andThen_r ?_)); refine retQ_r ?_)
    exact Ends.plain rfl rfl (by exact Sub.f) ⟨by rw [show x.tmod n + n = x % n from by omega], rfl⟩
  · have hb : ¬ x.tmod n < 0 := by simpa using hb
    (repeat (first | refine WK ?_ | refine All.i fun X => ?_ | refine AllY.i fun Y => ?_))
    (refine AWP.ret ?_; (repeat (first | refine inB_r ?_ | refine andThen_r ?_)); refine retQ_r ?_)
    exact Ends.plain rfl rfl (by exact Sub.f) ⟨by rw [show x.tmod n = x % n from by omega], rfl⟩
abbrev streamO (l : List Int) : AO := .row 93 1 [.agg [intsA false l]]
theorem next_po (X : Nat) (l : List Int) (n : Int) (h2 : n ≤ 4611686018427387904) : PO Try.prog 43 [.ptr X 0 0, iA n] X (streamO l) (iA (nextV l n)) (streamO (nextL l n)) := by
  refine Spec.of (nt := 33) (res := [.tmp 4]) Try.func43 rfl (by kernel_rfl) rfl rfl rfl fun Sf => ?_
  (repeat (first | refine WK ?_ | refine All.i fun X => ?_ | refine AllY.i fun Y => ?_))
  refine AWP.cond rfl (fun hb => ?_) (fun hb => ?_)
  · (repeat (first | refine WK ?_ | refine All.i fun X => ?_ | refine AllY.i fun Y => ?_))
    (refine AWP.ret ?_; (repeat (first | refine inB_r ?_ | refine andThen_r ?_)); refine retQ_r ?_)
    have hb : l.length = 0 ∨ n < 1 := by simp only [Bool.or_eq_true, decide_eq_true_eq, List.length_map] at hb; omega
    have e1 : nextV l n = 0 := by
      unfold nextV
      split
      · rfl
      · rcases hb with hb | hb
        · rw [List.length_eq_zero_iff.1 hb]
        · omega
    have e2 : nextL l n = l := by
      unfold nextL
      split
      · rfl
      · rcases hb with hb | hb
        · rw [List.length_eq_zero_iff.1 hb]; rfl
        · omega
    rw [e1, e2]
    exact Ends.plainS rfl rfl (by exact Sub.f) ⟨rfl, rfl⟩
  · have hb : l.length ≠ 0 ∧ 1 ≤ n := by simp only [Bool.or_eq_false_iff, decide_eq_false_iff_not, List.length_map] at hb; omega
    obtain ⟨hb, hn⟩ := hb
    cases l with
    | nil => exact absurd rfl hb
    | cons x l =>
    (repeat (first | (refine AOps.gN ?_; first | refine AOps.p (W.idxL rfl rfl (a := 0) rfl rfl) rfl ?_ | refine AOps.p (W.loL rfl rfl (a := 1) rfl (by simp)) rfl ?_ | refine AOps.p (W.call2 rfl rfl (below_ps _ _ hn h2) rfl) rfl ?_) | refine WK ?_ | refine All.i fun X => ?_ | refine AllY.i fun Y => ?_))
    (refine AWP.ret ?_; (repeat (first | refine inB_r ?_ | refine andThen_r ?_)); refine retQ_r ?_)
    rw [show nextV (x :: l) n = x % n from by unfold nextV; rw [if_neg (by omega)], show nextL (x :: l) n = l from by unfold nextL; rw [if_neg (by omega)]; rfl]
    exact Ends.plainS (S' := [(X, streamO l)]) rfl rfl (by exact Sub.f) ⟨rfl, rfl⟩
end Go.Proofs.Ytcfleoaldoebhaa

namespace Go.Proofs.Ytcfleoaldoebhaa
set_option linter.unusedVariables false
/-- The first i fields, kinds out of a stream, and the stream behind them. -/
def fAt : Nat → List Int → List Field × List Int
  | 0, l => ([], l)
  | i + 1, l => ((fAt i l).1 ++ [(genField i (fAt i l).2).1], (genField i (fAt i l).2).2)
def kAt : Nat → List Int → List Kind × List Int
  | 0, l => ([], l)
  | i + 1, l => ((kAt i l).1 ++ [(genKind i (kAt i l).2).1], (genKind i (kAt i l).2).2)
theorem fAt_len (i : Nat) (l : List Int) : (fAt i l).1.length = i := by
  induction i with
  | zero => rfl
  | succ i ih => simp [fAt, ih]
theorem kAt_len (i : Nat) (l : List Int) : (kAt i l).1.length = i := by
  induction i with
  | zero => rfl
  | succ i ih => simp [kAt, ih]
theorem fAt_gen (c i : Nat) (l : List Int) : ((fAt i l).1 ++ (genFields i c (fAt i l).2).1, (genFields i c (fAt i l).2).2) = fAt (i + c) l := by
  induction c generalizing i with
  | zero => simp [genFields]
  | succ c ih =>
    rw [show i + (c + 1) = (i + 1) + c from by omega, ← ih (i + 1)]
    simp [genFields, fAt]
theorem kAt_gen (c i : Nat) (l : List Int) : ((kAt i l).1 ++ (genKindsFrom i c (kAt i l).2).1, (genKindsFrom i c (kAt i l).2).2) = kAt (i + c) l := by
  induction c generalizing i with
  | zero => simp [genKindsFrom]
  | succ c ih =>
    rw [show i + (c + 1) = (i + 1) + c from by omega, ← ih (i + 1)]
    simp [genKindsFrom, kAt]
theorem genFields_at (c : Nat) (l : List Int) : genFields 0 c l = fAt c l := by
  have := fAt_gen c 0 l
  simpa [fAt] using this
theorem genKinds_at (l : List Int) : genKinds l = kAt (1 + nextV l 4).toNat (nextL l 4) := by
  have := kAt_gen (1 + nextV l 4).toNat 0 (nextL l 4)
  simpa [kAt, genKinds] using this
theorem knames_at {i : Nat} (h : i < 4) : [sA [115, 112, 111, 116], sA [108, 105, 102, 101], sA [116, 101, 97, 109], sA [103, 111, 97, 108]][i]? = some (sA (kindName i)) := by
  have : i = 0 ∨ i = 1 ∨ i = 2 ∨ i = 3 := by omega
  rcases this with rfl | rfl | rfl | rfl <;> rfl
theorem fnames_at {i : Nat} (h : i < 3) : [sA [120], sA [121], sA [122]][i]? = some (sA (fieldName i)) := by
  have : i = 0 ∨ i = 1 ∨ i = 2 := by omega
  rcases this with rfl | rfl | rfl <;> rfl
theorem kinds_po (G : Nat) (l : List Int) : PO Try.prog 42 [.ptr G 0 0] G (streamO l) (kindsA true false (genKinds l).1) (streamO (genKinds l).2) := by
  refine Spec.of (nt := 55) (res := [.tmp 2]) Try.func42 rfl (by kernel_rfl) rfl rfl rfl fun Sf => ?_
  have h0 := nextV_range l (n := 4) (by decide)
  (repeat (first | (refine AOps.gN ?_; first | (refine AOps.g_callf ?_; first | refine AOps.o2 (h := (next_po G _ _ (by decide))) (k := ?_))) | refine WK ?_ | refine All.i fun X => ?_ | refine AllY.i fun Y => ?_))

  refine AWP.adopt (d := 3) 51 2 rfl fun K => ?_
  obtain ⟨c, hc⟩ : ∃ c : Nat, 1 + nextV l 4 = c := ⟨(1 + nextV l 4).toNat, by omega⟩
  obtain ⟨l0, hl0⟩ : ∃ l0, nextL l 4 = l0 := ⟨_, rfl⟩
  have hg : genKinds l = kAt c l0 := by rw [genKinds_at, hl0, show (1 + nextV l 4).toNat = c from by omega]
  rw [hg, hl0, hc]
  have hc4 : 1 ≤ c ∧ c ≤ 4 := by omega
  clear hg hl0 hc h0
  refine AWP.lp4 (fun (i K : Nat) (M : List AV) (q : List Int) => ⟨[(0, .ptr G 0 0), (3, .sl K 0 i), (10, iA c), (11, iA i)], (K, .row 51 2 M) :: (G, streamO q) :: Sf⟩) (fun i _ M q => i ≤ c ∧ M = (kAt i l0).1.map (kindA false) ∧ M.length = i ∧ q = (kAt i l0).2) (fun i _ _ _ => c - i) 0 K [] l0 ⟨Nat.zero_le _, rfl, rfl, rfl⟩ ?_
  rintro i K M q ⟨hi, hM, hMl, hq⟩
  (repeat (first | refine WK ?_ | refine All.i fun X => ?_ | refine AllY.i fun Y => ?_))
  refine AWP.cond rfl (fun hb => ?_) (fun hb => ?_)
  · have h : i < c := by rw [decide_eq_true_eq] at hb; omega
    have h4 : i < 4 := by omega
    have h3 := nextV_range q (n := 3) (by decide)
    have hkn := knames_at h4
    (repeat (first | (refine AOps.gN ?_; first | (refine AOps.g_callf ?_; first | refine AOps.o2 (h := (next_po G _ _ (by decide))) (k := ?_))) | refine WK ?_ | refine All.i fun Y => ?_ | refine AllY.i fun Y => ?_))
    refine AWP.adoptIn (Y := Y) 62 3 .here (fun F => .cons (.agg (.cons .same (.cons (.base .nil) .nil))) .nil) fun F => ?_
    obtain ⟨l1, hl1⟩ : ∃ l1, nextL q 3 = l1 := ⟨_, rfl⟩
    obtain ⟨c1, hc1⟩ : ∃ c1 : Nat, 1 + nextV q 3 = c1 := ⟨(1 + nextV q 3).toNat, by omega⟩
    have hgk : kAt (i + 1) l0 = ((kAt i l0).1 ++ [⟨kindName i, (fAt c1 l1).1⟩], (fAt c1 l1).2) := by
      rw [kAt, ← hq, genKind, genFields_at, show (1 + nextV q 3).toNat = c1 from by omega, hl1]
    rw [hl1, hc1]
    have hc13 : c1 ≤ 3 := by omega
    refine AWP.lp4 (fun (j F : Nat) (L : List AV) (r : List Int) => ⟨[(0, .ptr G 0 0), (3, .sl K 0 i), (5, .ptr Y 0 0), (10, iA c), (11, iA i), (21, iA c1), (22, iA j)], (F, .row 62 3 L) :: (Y, .row 51 2 [.agg [sA (kindName i), .sl F 0 j]]) :: (K, .row 51 2 M) :: (G, streamO r) :: Sf⟩) (fun j _ L r => j ≤ c1 ∧ L = (fAt j l1).1.map fieldA ∧ L.length = j ∧ r = (fAt j l1).2) (fun j _ _ _ => c1 - j) 0 F [] l1 ⟨Nat.zero_le _, rfl, rfl, rfl⟩ ?_
    rintro j F L r ⟨hj, hL, hLl, hr⟩
    (repeat (first | refine WK ?_ | refine All.i fun X => ?_ | refine AllY.i fun Y => ?_))
    refine AWP.cond rfl (fun hd => ?_) (fun hd => ?_)
    · have hj' : j < c1 := by rw [decide_eq_true_eq] at hd; omega
      have h9 := nextV_range r (n := 9) (by decide)
      have h40 := nextV_range (nextL r 9) (n := 40) (by decide)
      have hfn := fnames_at (i := j) (by omega)
      (repeat (first | refine WK ?_ | refine All.i fun X => ?_ | refine AllY.i fun Y => ?_))
      refine AWP.rs fun X7 => ?_
      (repeat refine WF ?_); refine AWP.region_run (by kernel_rfl) (by kernel_rfl) ?_; (repeat (first | (refine RGo.gN ?_; first | (refine RGo.g_callf ?_; first | refine RGo.o2 (h := (next_po G _ _ (by decide))) (k := ?_))) | (refine RGo.gQ ?_; first | (refine RGo.g_callf ?_; first | refine RGo.o2 (h := (next_po G _ _ (by decide))) (k := ?_))) | refine RK ?_ | refine RGo.nil (by kernel_rfl) ?_))
      (repeat (first | (refine AOps.gN ?_; first | (refine AOps.g_callf ?_; first | refine AOps.o2 (h := (next_po G _ _ (by decide))) (k := ?_))) | refine WK ?_ | refine All.i fun X => ?_ | refine AllY.i fun Y => ?_))
      refine AWP.cond rfl (fun he => ?_) (fun he => ?_)
      · have he : nextV (nextL (nextL r 9) 40) 8 = 7 := by simpa using he
        have hg : genField j r = (⟨fieldName j, 32, -2147483648⟩, nextL (nextL (nextL r 9) 40) 8) := by rw [genField, if_pos he]
        (repeat (first | (refine AOps.gN ?_; first | (refine AOps.g_lit ?_; refine AOps.goL (fieldA ⟨fieldName j, 32, -2147483648⟩) ?_)) | refine WK ?_ | refine All.i fun X => ?_ | refine AllY.i fun Y => ?_))
        refine lp_next4 (j + 1) Y _ _ ⟨hj', ?_, ?_, ?_⟩
        · rw [fAt, ← hr, hg, hL, List.map_append]; rfl
        · rw [List.length_append, hLl]; rfl
        · rw [fAt, ← hr, hg]
      · have he : nextV (nextL (nextL r 9) 40) 8 ≠ 7 := by simpa using he
        have hg : genField j r = (⟨fieldName j, 1 + nextV r 9, nextV (nextL r 9) 40 - 30⟩, nextL (nextL (nextL r 9) 40) 8) := by rw [genField, if_neg he]
        (repeat (first | (refine AOps.gN ?_; first | (refine AOps.g_lit ?_; refine AOps.goL (fieldA ⟨fieldName j, 1 + nextV r 9, nextV (nextL r 9) 40 - 30⟩) ?_)) | refine WK ?_ | refine All.i fun X => ?_ | refine AllY.i fun Y => ?_))
        refine lp_next4 (j + 1) Y _ _ ⟨hj', ?_, ?_, ?_⟩
        · rw [fAt, ← hr, hg, hL, List.map_append]; rfl
        · rw [List.length_append, hLl]; rfl
        · rw [fAt, ← hr, hg]
    · have hj' : j = c1 := by rw [decide_eq_false_iff_not] at hd; omega
      subst hj'
      (repeat first | refine AOps.nil ?_ | refine WF ?_)
      refine AWP.iceIn (X := F) (Y := Y) .here (.next .here) rfl (.cons (.agg (.cons .same (.cons (.base (.sl (by omega))) .nil))) .nil) ?_
      have hF : AV.frzs ((L.drop 0).take j) = (fAt j l1).1.map fieldA := by
        rw [List.drop_zero, List.take_of_length_le (by omega), hL]
        exact Frzs.h
      rw [hF]
      (repeat (first | (refine AOps.gN ?_; first | (refine AOps.g_lit ?_; refine AOps.goL (kindA false ⟨kindName i, (fAt j l1).1⟩) ?_)) | refine WK ?_ | refine All.i fun X => ?_ | refine AllY.i fun Y => ?_))
      refine lp_next4 (i + 1) Y _ _ ⟨h, ?_, ?_, ?_⟩
      · rw [hgk, hM, List.map_append]; rfl
      · rw [List.length_append, hMl]; rfl
      · rw [hgk, hr]
  · have h : i = c := by rw [decide_eq_false_iff_not] at hb; omega
    subst h
    (repeat (first | refine WK ?_ | refine All.i fun X => ?_ | refine AllY.i fun Y => ?_))
    (refine AWP.ret ?_; (repeat (first | refine inB_r ?_ | refine andThen_r ?_)); refine retQ_r ?_)
    subst hM hq
    refine ⟨[.sl K 0 i], [.lst true 51 2 ((kAt i l0).1.map (kindA false))], _, [(G, streamO (kAt i l0).2)], .cons (.tmp rfl) rfl .nil, .cons (.cell (.sl (p := 0) .here (by rw [List.length_map, kAt_len]))) .nil, by exact Sub.f, rfl, rfl⟩
end Go.Proofs.Ytcfleoaldoebhaa

namespace Go.Proofs.Ytcfleoaldoebhaa
set_option linter.unusedVariables false
theorem vAt_len (fs : List Field) (l : List Int) (i : Nat) : (vAt fs l i).1.length ≤ i := by
  induction i with
  | zero => simp [vAt]
  | succ i ih => rw [vAt]; split <;> (try simp only [List.length_append, List.length_singleton]) <;> omega
theorem cAt_len (ks : List Kind) (l : List Int) (i : Nat) : (cAt ks l i).1.length ≤ i := by
  induction i with
  | zero => simp [cAt]
  | succ i ih => rw [cAt]; split <;> (try split) <;> (try simp only [List.length_append, List.length_singleton]) <;> omega
theorem vAt_next {fs : List Field} {l : List Int} {i : Nat} (h : i < fs.length) : vAt fs l (i + 1) = ((vAt fs l i).1 ++ [fs[i].low + nextV (vAt fs l i).2 (2 ^ fs[i].bits.toNat)], nextL (vAt fs l i).2 (2 ^ fs[i].bits.toNat)) := by
  rw [vAt, List.getElem?_eq_getElem h]
theorem cAt_no {ks : List Kind} {l : List Int} {i : Nat} (h : i < ks.length) (h2 : nextV (cAt ks l i).2 3 = 2) : cAt ks l (i + 1) = ((cAt ks l i).1, nextL (cAt ks l i).2 3) := by
  rw [cAt, List.getElem?_eq_getElem h]; simp only; rw [if_pos h2]
theorem cAt_yes {ks : List Kind} {l : List Int} {i : Nat} (h : i < ks.length) (h2 : nextV (cAt ks l i).2 3 ≠ 2) : cAt ks l (i + 1) = ((cAt ks l i).1 ++ [⟨i, (vAt ks[i].fields (nextL (cAt ks l i).2 3) ks[i].fields.length).1⟩], (vAt ks[i].fields (nextL (cAt ks l i).2 3) ks[i].fields.length).2) := by
  rw [cAt, List.getElem?_eq_getElem h]; simp only; rw [if_neg h2]
theorem pow_small {b : Nat} (h : b ≤ 32) : (1 : Int) ≤ 2 ^ b ∧ (2 : Int) ^ b ≤ 4294967296 := by
  have h1 : (2 : Nat) ^ b ≤ 2 ^ 32 := Nat.pow_le_pow_right (by decide) h
  have h2 : 0 < (2 : Nat) ^ b := Nat.pow_pos (by decide)
  have h3 : ((2 : Int) ^ b) = (((2 : Nat) ^ b : Nat) : Int) := by simp
  rw [h3]
  have : (2 : Nat) ^ 32 = 4294967296 := by decide
  omega
theorem comps_po (G : Nat) (ks : List Kind) (l : List Int) (hk : KindsOK ks) : PO Try.prog 44 [kindsA false false ks, .ptr G 0 0] G (streamO l) (compsA true false (genComps ks l).1) (streamO (genComps ks l).2) := by
  refine Spec.of (nt := 50) (res := [.tmp 4]) Try.func44 rfl (by kernel_rfl) rfl rfl rfl fun Sf => ?_
  obtain ⟨hk0, hk1⟩ := hk
  (repeat refine WF ?_); refine AWP.region ?_; (repeat (first | refine WO ?_ | refine All.i fun X => ?_ | refine AllY.i fun Y => ?_)); refine AOps.nil ?_; (repeat refine WN ?_)
  (repeat refine WF ?_); refine AWP.region ?_; (repeat (first | refine WO ?_ | refine All.i fun X => ?_ | refine AllY.i fun Y => ?_)); refine AOps.nil ?_; (repeat refine WN ?_)
  (repeat refine WF ?_); refine AWP.region ?_; (repeat (first | refine WO ?_ | refine All.i fun X => ?_ | refine AllY.i fun Y => ?_)); refine AOps.nil ?_; (repeat refine WN ?_)
  (repeat first | refine AOps.nil ?_ | refine WF ?_)
  refine AWP.adopt (d := 5) 58 2 rfl fun K => ?_
  refine AWP.lp5 (fun (i K : Nat) (M : List AV) (n : Nat) (q : List Int) => ⟨[(1, .ptr G 0 0), (5, .sl K 0 n), (11, kindsA false false ks), (12, iA (ks.map (kindA false)).length), (13, iA i)], (K, .row 58 2 M) :: (G, streamO q) :: Sf⟩) (fun i _ M n q => i ≤ ks.length ∧ M = (cAt ks l i).1.map (compA false) ∧ n = M.length ∧ q = (cAt ks l i).2) (fun i _ _ _ _ => ks.length - i) 0 K [] 0 l ⟨Nat.zero_le _, rfl, rfl, rfl⟩ ?_
  rintro i K M n q ⟨hi, hM, hn, hq⟩
  (repeat (first | refine WK ?_ | refine All.i fun X => ?_ | refine AllY.i fun Y => ?_))
  refine AWP.cond rfl (fun hc => ?_) (fun hc => ?_)
  · have h : i < ks.length := by simpa using hc
    obtain ⟨hf0, hf1⟩ := hk1 _ (List.getElem_mem h)
    have h3 := nextV_range q (n := 3) (by decide)
    have hn1 : n + 1 ≤ 1099511627776 := by have := cAt_len ks l i; rw [hn, hM, List.length_map]; omega
    (repeat (first | (refine AOps.gN ?_; first | (refine AOps.g_callf ?_; first | refine AOps.o2 (h := (next_po G _ _ (by decide))) (k := ?_))) | refine WK ?_ | refine All.i fun X => ?_ | refine AllY.i fun Y => ?_))
    refine AWP.cond rfl (fun he => ?_) (fun he => ?_)
    · have he : nextV q 3 = 2 := by simpa using he
      (repeat (first | refine WK ?_ | refine All.i fun X => ?_ | refine AllY.i fun Y => ?_))
      refine lp_next5 (i + 1) K M n _ ⟨h, ?_, hn, ?_⟩
      · rw [cAt_no h (hq ▸ he), hM]
      · rw [cAt_no h (hq ▸ he), hq]
    · have he : nextV q 3 ≠ 2 := by simpa using he
      (repeat refine WF ?_); refine AWP.region ?_; (repeat (first | refine WO ?_ | refine All.i fun Y => ?_ | refine AllY.i fun Y => ?_)); refine AOps.nil ?_; (repeat refine WN ?_)
      refine AWP.adoptIn (Y := Y) 3 1 .here (fun F => .cons (.agg (.cons .same (.cons (.base .nil) .nil))) .nil) fun F => ?_
      (repeat (first | refine WK ?_ | refine All.i fun X => ?_ | refine AllY.i fun Y => ?_))
      obtain ⟨fs, hfs⟩ : ∃ fs, ks[i].fields = fs := ⟨_, rfl⟩
      obtain ⟨q1, hq1⟩ : ∃ q1, nextL q 3 = q1 := ⟨_, rfl⟩
      rw [hq1, hfs]
      have hck : cAt ks l (i + 1) = ((cAt ks l i).1 ++ [⟨i, (vAt fs q1 fs.length).1⟩], (vAt fs q1 fs.length).2) := by rw [cAt_yes h (hq ▸ he), ← hq, hq1, hfs]
      rw [hfs] at hf0 hf1
      refine AWP.lp5 (fun (j F : Nat) (L : List AV) (m : Nat) (r : List Int) => ⟨[(1, .ptr G 0 0), (5, .sl K 0 n), (6, iA i), (8, .ptr Y 0 0), (11, kindsA false false ks), (12, iA (ks.map (kindA false)).length), (13, iA i), (24, fieldsA false fs), (25, iA (fs.map fieldA).length), (26, iA j)], (F, .row 3 1 L) :: (Y, .row 58 2 [.agg [iA i, .sl F 0 m]]) :: (K, .row 58 2 M) :: (G, streamO r) :: Sf⟩) (fun j _ L m r => j ≤ fs.length ∧ L = (vAt fs q1 j).1.map iA ∧ m = L.length ∧ r = (vAt fs q1 j).2) (fun j _ _ _ _ => fs.length - j) 0 F [] 0 q1 ⟨Nat.zero_le _, rfl, rfl, rfl⟩ ?_
      rintro j F L m r ⟨hj, hL, hm, hr⟩
      (repeat (first | refine WK ?_ | refine All.i fun X => ?_ | refine AllY.i fun Y => ?_))
      refine AWP.cond rfl (fun hd => ?_) (fun hd => ?_)
      · have hj' : j < fs.length := by simpa using hd
        obtain ⟨hb0, hb1, hl0, hl1⟩ := hf1 _ (List.getElem_mem hj')
        obtain ⟨b, hb⟩ : ∃ b : Nat, fs[j].bits = b := ⟨fs[j].bits.toNat, by omega⟩
        have hp := pow_small (b := b) (by omega)
        have hw : IntKind.i64.wrap (1 * 2 ^ b) = 2 ^ b := by rw [Int.one_mul]; exact wrap_id (by omega) (by omega)
        have hv := nextV_range r (n := IntKind.i64.wrap (1 * 2 ^ b)) (by omega)
        have hm1 : m + 1 ≤ 1099511627776 := by have := vAt_len fs q1 j; rw [hm, hL, List.length_map]; omega
        (repeat (first | refine WK ?_ | refine All.i fun Z => ?_ | refine AllY.i fun Y => ?_))
        refine AWP.rs fun X7 => ?_
        (repeat refine WF ?_); refine AWP.region_run (by kernel_rfl) (by kernel_rfl) ?_; (repeat (first | (refine RGo.gN ?_; first | (refine RGo.g_callf ?_; first | refine RGo.o2 (h := (next_po G _ _ (by rw [hw]; omega))) (k := ?_)) | refine RGo.p (W.shl rfl rfl hb (by show b ≤ 64; omega)) rfl ?_ | refine RGo.p (W.add rfl rfl (by omega)) rfl ?_) | (refine RGo.gQ ?_; first | (refine RGo.g_callf ?_; first | refine RGo.o2 (h := (next_po G _ _ (by rw [hw]; omega))) (k := ?_)) | refine RGo.p (W.shl rfl rfl hb (by show b ≤ 64; omega)) rfl ?_ | refine RGo.p (W.add rfl rfl (by omega)) rfl ?_) | refine RK ?_ | refine RGo.nil (by kernel_rfl) ?_))
        (repeat (first | refine WK ?_ | refine All.i fun X => ?_ | refine AllY.i fun Y => ?_))
        have hva : vAt fs q1 (j + 1) = ((vAt fs q1 j).1 ++ [fs[j].low + nextV r (IntKind.i64.wrap (1 * 2 ^ b))], nextL r (IntKind.i64.wrap (1 * 2 ^ b))) := by rw [vAt_next hj', ← hr, hw, hb]; rfl
        refine lp_next5 (j + 1) X7 _ _ _ ⟨hj', ?_, ?_, ?_⟩
        · rw [hva, hL, List.map_append]; rfl
        · rw [List.length_append, hm]
        · rw [hva]
      · have hj' : j = fs.length := by rw [decide_eq_false_iff_not, List.length_map] at hd; omega
        subst hj'
        (repeat first | refine AOps.nil ?_ | refine WF ?_)
        refine AWP.iceIn (X := F) (Y := Y) .here (.next .here) rfl (.cons (.agg (.cons .same (.cons (.base (.sl (by omega))) .nil))) .nil) ?_
        have hF : AV.frzs ((L.drop 0).take m) = (vAt fs q1 fs.length).1.map iA := by
          rw [List.drop_zero, List.take_of_length_le (by omega), hL]
          exact Frzs.h
        rw [hF]
        (repeat (first | (refine AOps.gN ?_; first | (refine AOps.g_lit ?_; refine AOps.goL (compA false ⟨i, (vAt fs q1 fs.length).1⟩) ?_)) | refine WK ?_ | refine All.i fun X => ?_ | refine AllY.i fun Y => ?_))
        refine lp_next5 (i + 1) Y _ _ _ ⟨h, ?_, ?_, ?_⟩
        · rw [hck, hM, List.map_append]; rfl
        · rw [List.length_append, hn]
        · rw [hck, hr]
  · have h : i = ks.length := by rw [decide_eq_false_iff_not, List.length_map] at hc; omega
    subst h
    (repeat (first | refine WK ?_ | refine All.i fun X => ?_ | refine AllY.i fun Y => ?_))
    (refine AWP.ret ?_; (repeat (first | refine inB_r ?_ | refine andThen_r ?_)); refine retQ_r ?_)
    subst hM hq
    exact ⟨[.sl K 0 n], [.lst true 58 2 ((cAt ks l ks.length).1.map (compA false))], _, [(G, streamO (cAt ks l ks.length).2)], .cons (.tmp rfl) rfl .nil, .cons (.cell (.sl (p := 0) .here hn)) .nil, by exact Sub.f, rfl, rfl⟩
theorem wAt_len1 (ks : List Kind) (l : List Int) (i : Nat) : (wAt ks l i).1.length = i := by
  induction i with
  | zero => rfl
  | succ i ih => rw [wAt]; split <;> simp [ih]
theorem wAt_len2 (ks : List Kind) (l : List Int) (i : Nat) : (wAt ks l i).2.1.length ≤ i := by
  induction i with
  | zero => simp [wAt]
  | succ i ih => rw [wAt]; split <;> (try simp only [List.length_append, List.length_singleton]) <;> omega
/-- A made world: its lists of generations and items are its own. -/
def wdO (w : Wd) : AV := .agg [kindsA false false w.kinds, intsA true w.gens, itemsA true false w.items]
instance {w : Wd} : Frz (wdO w) (wdA false w) := ⟨by unfold wdO wdA; exact Frz.h⟩
theorem genField_rng (i : Nat) (l : List Int) : FieldOK (genField i l).1 := by
  have h9 := nextV_range l (n := 9) (by decide)
  have h40 := nextV_range (nextL l 9) (n := 40) (by decide)
  unfold genField
  split <;> refine ⟨?_, ?_, ?_, ?_⟩ <;> simp <;> omega
theorem fAt_rng (i : Nat) (l : List Int) : ∀ f ∈ (fAt i l).1, FieldOK f := by
  induction i with
  | zero => intro f hf; cases hf
  | succ i ih =>
    intro f hf
    rcases List.mem_append.1 hf with hf | hf
    · exact ih f hf
    · rw [List.mem_singleton.1 hf]; exact genField_rng _ _
theorem genKind_rng (k : Nat) (l : List Int) : (genKind k l).1.fields.length ≤ 3 ∧ ∀ f ∈ (genKind k l).1.fields, FieldOK f := by
  have h := nextV_range l (n := 3) (by decide)
  show (genFields 0 (1 + nextV l 3).toNat (nextL l 3)).1.length ≤ 3 ∧ ∀ f ∈ (genFields 0 (1 + nextV l 3).toNat (nextL l 3)).1, FieldOK f
  rw [genFields_at]
  exact ⟨by rw [fAt_len]; omega, fAt_rng _ _⟩
theorem kAt_rng (i : Nat) (l : List Int) : ∀ k ∈ (kAt i l).1, k.fields.length ≤ 3 ∧ ∀ f ∈ k.fields, FieldOK f := by
  induction i with
  | zero => intro f hf; cases hf
  | succ i ih =>
    intro f hf
    rcases List.mem_append.1 hf with hf | hf
    · exact ih f hf
    · rw [List.mem_singleton.1 hf]; exact genKind_rng _ _
theorem genKinds_cnt (l : List Int) : (genKinds l).1.length = (1 + nextV l 4).toNat := by rw [genKinds_at, kAt_len]
theorem genKinds_rng (l : List Int) : KindsOK (genKinds l).1 := by
  have h := nextV_range l (n := 4) (by decide)
  refine ⟨by rw [genKinds_cnt]; omega, ?_⟩
  rw [genKinds_at]
  intro k hk
  have := kAt_rng _ _ k hk
  exact ⟨by omega, this.2⟩
theorem world_ps (l : List Int) : PS Try.prog 16 [intsA false l] (wdO (genWorld l)) := by
  refine Spec.of (nt := 52) (res := [.cell 2 39]) Try.func16 rfl (by kernel_rfl) rfl rfl rfl fun Sf => ?_
  have hko := genKinds_rng l
  obtain ⟨ks, hks⟩ : ∃ ks, (genKinds l).1 = ks := ⟨_, rfl⟩
  obtain ⟨l1, hl1⟩ : ∃ l1, (genKinds l).2 = l1 := ⟨_, rfl⟩
  have h12 := nextV_range l1 (n := 12) (by decide)
  obtain ⟨c, hc⟩ : ∃ c : Nat, nextV l1 12 = c := ⟨(nextV l1 12).toNat, by omega⟩
  obtain ⟨l2, hl2⟩ : ∃ l2, nextL l1 12 = l2 := ⟨_, rfl⟩
  have hg : genWorld l = ⟨ks, (wAt ks l2 c).1, (wAt ks l2 c).2.1⟩ := by unfold genWorld; rw [hks, hl1, hl2, hc]; rfl
  have hkp := fun G => kinds_po G l
  rw [hks, hl1] at hkp
  rw [hks] at hko
  rw [hg]
  clear hg hks hl1
  (repeat refine WF ?_); refine AWP.region ?_; (repeat (first | refine WO ?_ | refine All.i fun R => ?_ | refine AllY.i fun Y => ?_)); refine AOps.nil ?_; (repeat refine WN ?_)
  (repeat refine WF ?_); refine AWP.region ?_; (repeat (first | refine WO ?_ | refine All.i fun G => ?_ | refine AllY.i fun Y => ?_)); refine AOps.nil ?_; (repeat refine WN ?_)
  (repeat refine WF ?_); refine AWP.region ?_; (repeat (first | (refine AOps.gN ?_; first | (refine AOps.g_callf ?_; first | refine AOps.o1 (h := (hkp G)) (k := ?_))) | refine WO ?_ | refine All.i fun V => ?_ | refine AllY.i fun Y => ?_)); refine AOps.nil ?_; (repeat refine WN ?_)
  (repeat refine WF ?_); refine AWP.region ?_; (repeat (first | (refine AOps.gN ?_; first | (refine AOps.g_callf ?_; first | refine AOps.o2 (h := (next_po G _ _ (by decide))) (k := ?_))) | refine WO ?_ | refine All.i fun X => ?_ | refine AllY.i fun Y => ?_)); refine AOps.nil ?_; (repeat refine WN ?_)
  rw [hl2, hc]
  refine AWP.adoptIn (Y := V) 98 3 (by exact At.f) (fun F => .cons (.agg (.cons .same (.cons .same (.cons (.base .nil) .nil)))) .nil) fun B => ?_
  refine AWP.adoptIn (Y := V) 3 1 (by exact At.f) (fun F => .cons (.agg (.cons .same (.cons (.base .nil) (.cons .same .nil)))) .nil) fun A => ?_
  (repeat first | refine AOps.nil ?_ | refine WF ?_)
  refine AWP.lp7 (fun (i A B : Nat) (L M : List AV) (n : Nat) (q : List Int) => ⟨[(2, .ptr R 0 0), (3, .ptr G 0 0), (4, .ptr V 0 0), (13, iA c), (14, iA i)], (A, .row 3 1 L) :: (B, .row 98 3 M) :: (V, .row 39 3 [.agg [kindsA false false ks, .sl A 0 i, .sl B 0 n]]) :: (G, streamO q) :: (R, .row 39 3 [.agg [.prim (.slice none 0 0), .prim (.slice none 0 0), .prim (.slice none 0 0)]]) :: Sf⟩) (fun i _ _ L M n q => i ≤ c ∧ L = (wAt ks l2 i).1.map iA ∧ M = (wAt ks l2 i).2.1.map (itemA false) ∧ n = M.length ∧ q = (wAt ks l2 i).2.2) (fun i _ _ _ _ _ _ => c - i) 0 A B [] [] 0 l2 ⟨Nat.zero_le _, rfl, rfl, rfl, rfl⟩ ?_
  rintro i A B L M n q ⟨hi, hL, hM, hn, hq⟩
  have hA := wAt_len1 ks l2 i
  have hB := wAt_len2 ks l2 i
  (repeat (first | refine WK ?_ | refine All.i fun X => ?_ | refine AllY.i fun Y => ?_))
  refine AWP.cond rfl (fun hd => ?_) (fun hd => ?_)
  · have h : i < c := by rw [decide_eq_true_eq] at hd; omega
    have h3 := nextV_range q (n := 3) (by decide)
    have h4 := nextV_range (nextL q 3) (n := 4) (by decide)
    (repeat refine WF ?_); refine AWP.region ?_; (repeat (first | refine WO ?_ | refine All.i fun X => ?_ | refine AllY.i fun Y => ?_)); refine AOps.nil ?_; (repeat refine WN ?_)
    refine AWP.rs fun X7 => ?_
    (repeat refine WF ?_); refine AWP.region_run (by kernel_rfl) (by kernel_rfl) ?_; (repeat (first | (refine RGo.gN ?_; first | (refine RGo.g_callf ?_; first | refine RGo.o2 (h := (next_po G _ _ (by decide))) (k := ?_))) | (refine RGo.gQ ?_; first | (refine RGo.g_callf ?_; first | refine RGo.o2 (h := (next_po G _ _ (by decide))) (k := ?_))) | refine RK ?_ | refine RGo.nil (by kernel_rfl) ?_))
    (repeat (first | (refine AOps.gN ?_; first | (refine AOps.g_callf ?_; first | refine AOps.o2 (h := (next_po G _ _ (by decide))) (k := ?_))) | refine WK ?_ | refine All.i fun X => ?_ | refine AllY.i fun Y => ?_))
    have hLl : L.length = i := by rw [hL, List.length_map, hA]
    obtain ⟨IT, hIT⟩ : ∃ IT, (wAt ks l2 i).2.1 = IT := ⟨_, rfl⟩
    rw [hIT] at hM hB
    have hnl : n = IT.length := by rw [hn, hM, List.length_map]
    have hat : (L ++ [.prim (.int .i64 (nextV q 3))])[i]? = some (.prim (.int .i64 (nextV q 3))) := by rw [← hLl]; simp
    refine AWP.cond rfl (fun he => ?_) (fun he => ?_)
    · have he : nextV (nextL q 3) 4 = 3 ∨ n = 8 := by rw [Bool.or_eq_true, decide_eq_true_eq, decide_eq_true_eq] at he; omega
      have hw : wAt ks l2 (i + 1) = ((wAt ks l2 i).1 ++ [nextV q 3], IT, nextL (nextL q 3) 4) := by rw [wAt, ← hq, hIT, ← hnl, if_pos he]
      (repeat (first | refine WK ?_ | refine All.i fun X => ?_ | refine AllY.i fun Y => ?_))
      refine lp_next7 (i + 1) X7 B _ M n _ ⟨h, ?_, ?_, hn, ?_⟩
      · rw [hw, hL, List.map_append]; rfl
      · rw [hw, hM]
      · rw [hw]
    · have he : ¬ (nextV (nextL q 3) 4 = 3 ∨ n = 8) := by rw [Bool.or_eq_false_iff, decide_eq_false_iff_not, decide_eq_false_iff_not] at he; omega
      have hw : wAt ks l2 (i + 1) = ((wAt ks l2 i).1 ++ [nextV q 3], IT ++ [⟨⟨i, nextV q 3⟩, (genComps ks (nextL (nextL q 3) 4)).1⟩], (genComps ks (nextL (nextL q 3) 4)).2) := by rw [wAt, ← hq, hIT, ← hnl, if_neg he]
      have hin : i < i + [AV.prim (.int .i64 (nextV q 3))].length := Nat.lt_succ_self i
      refine AWP.rs fun X8 => ?_
      (repeat refine WF ?_); refine AWP.region_run (by kernel_rfl) (by kernel_rfl) ?_; (repeat (first | (refine RGo.gN ?_; first | (refine RGo.g_callf ?_; first | refine RGo.o2 (h := (comps_po G ks _ hko)) (k := ?_)) | (refine RGo.g_lit ?_; refine RGo.goL (itemA false ⟨⟨i, nextV q 3⟩, (genComps ks (nextL (nextL q 3) 4)).1⟩) ?_)) | (refine RGo.gQ ?_; first | (refine RGo.g_callf ?_; first | refine RGo.o2 (h := (comps_po G ks _ hko)) (k := ?_)) | (refine RGo.g_lit ?_; refine RGo.goL (itemA false ⟨⟨i, nextV q 3⟩, (genComps ks (nextL (nextL q 3) 4)).1⟩) ?_)) | refine RK ?_ | refine RGo.nil (by kernel_rfl) ?_))
      (repeat (first | refine WK ?_ | refine All.i fun X => ?_ | refine AllY.i fun Y => ?_))
      refine lp_next7 (i + 1) X7 X8 _ _ _ _ ⟨h, ?_, ?_, ?_, ?_⟩
      · rw [hw, hL, List.map_append]; rfl
      · rw [hw, hM, List.map_append]; rfl
      · rw [List.length_append, hn]
      · rw [hw]
  · have h : i = c := by rw [decide_eq_false_iff_not] at hd; omega
    subst h
    (repeat (first | refine WK ?_ | refine All.i fun X => ?_ | refine AllY.i fun Y => ?_))
    (refine AWP.ret ?_; (repeat (first | refine inB_r ?_ | refine andThen_r ?_)); refine retQ_r ?_)
    subst hL hM
    have hA : i = ((wAt ks l2 i).1.map iA).length := by rw [List.length_map, hA]
    exact ⟨[.agg [kindsA false false ks, .sl A 0 i, .sl B 0 n]], [wdO ⟨ks, (wAt ks l2 i).1, (wAt ks l2 i).2.1⟩], _, [], .cons (.cell (p := 4) rfl (by exact At.f) TAg.h TSize.h rfl rfl) rfl .nil, .cons (.agg (.cons .same (.cons (.sl (p := 0) .here hA) (.cons (.sl (p := 0) .here hn) .nil)))) .nil, by exact Sub.f, rfl, rfl⟩
end Go.Proofs.Ytcfleoaldoebhaa

namespace Go.Proofs.Ytcfleoaldoebhaa
set_option linter.unusedVariables false
/-- IndexFunc over a row that is written later. -/
theorem indexFuncOI_po (X : Nat) (l : List Int) (f : FuncId) (cap : List AV) (p : Int → Bool) (hs : st1s cap = true) (hl : l.length ≤ 4611686018427387904) (hf : ∀ x ∈ l, PS Try.prog f (iA x :: cap) (bA (p x))) : PO Try.prog 72 [.sl X 0 l.length, .fn f cap] X (.row 3 1 (l.map iA)) (iA (idxF l p)) (.row 3 1 (l.map iA)) := by
  refine Spec.of (nt := 19) (res := [.tmp 4]) Try.func72 rfl (by kernel_rfl) rfl rfl rfl fun Sf => ?_
  (repeat (first | refine WK ?_ | refine All.i fun X => ?_ | refine AllY.i fun Y => ?_))
  refine AWP.lp (fun i : Nat => ⟨[(0, .sl X 0 l.length), (1, .fn f cap), (7, iA l.length), (8, iA i)], (X, .row 3 1 (l.map iA)) :: Sf⟩) (fun i => i ≤ l.length ∧ ∀ j (h : j < l.length), j < i → p l[j] = false) (fun i => l.length - i) 0 ⟨Nat.zero_le _, fun j h hj => absurd hj (by omega)⟩ ?_
  rintro i ⟨hi, he⟩
  (repeat (first | refine WK ?_ | refine All.i fun X => ?_ | refine AllY.i fun Y => ?_))
  refine AWP.cond rfl (fun hc => ?_) (fun hc => ?_)
  · have h : i < l.length := by simpa using hc
    (repeat (first | (refine AOps.gN ?_; first | (refine AOps.g_callv ?_; first | refine AOps.k1 (h := (hf _ (List.getElem_mem h))) (k := ?_))) | refine WK ?_ | refine All.i fun X => ?_ | refine AllY.i fun Y => ?_))
    refine AWP.cond rfl (fun hd => ?_) (fun hd => ?_)
    · (repeat (first | refine WK ?_ | refine All.i fun X => ?_ | refine AllY.i fun Y => ?_))
      (refine AWP.ret ?_; (repeat (first | refine inB_r ?_ | refine andThen_r ?_)); refine retQ_r ?_); refine Ends.po ?_ ?_
      · rw [idxF_some h hd fun j hj => he j (by omega) hj]
      · rfl
    · (repeat (first | refine WK ?_ | refine All.i fun X => ?_ | refine AllY.i fun Y => ?_))
      refine lp_next (i + 1) ⟨h, fun j h1 h2 => ?_⟩
      by_cases e : j = i
      · subst e; exact hd
      · exact he j h1 (by omega)
  · have h : ¬ i < l.length := by simpa using hc
    (repeat (first | refine WK ?_ | refine All.i fun X => ?_ | refine AllY.i fun Y => ?_))
    (refine AWP.ret ?_; (repeat (first | refine inB_r ?_ | refine andThen_r ?_)); refine retQ_r ?_); refine Ends.po ?_ ?_
    · rw [idxF_none fun j hj => he j hj (by omega)]
    · rfl
theorem deleteFuncI_sp (X : Nat) (l : List Int) (f : FuncId) (cap : List AV) (p : Int → Bool) (hs : st1s cap = true) (hl : l.length ≤ 4611686018427387903) (hf : ∀ x ∈ l, PS Try.prog f (iA x :: cap) (bA (p x))) : Spec Try.prog 68 [.sl X 0 l.length, .fn f cap] [(X, .row 3 1 (l.map iA))] fun r S' => r = .lst true 3 1 ((l.filter fun x => !p x).map iA) ∧ S' = [] := by
  refine Spec.of (nt := 42) (res := [.tmp 4]) Try.func68 rfl (by kernel_rfl) rfl rfl rfl fun Sf => ?_
  have h0 := indexFuncOI_po X l f cap p hs (by omega) hf
  have hr := idxF_range l p
  obtain ⟨v, hv⟩ : ∃ v, idxF l p = v := ⟨_, rfl⟩
  rw [hv] at h0 hr
  (repeat (first | (refine AOps.gN ?_; first | (refine AOps.g_callf ?_; first | refine AOps.o2 (h := (h0 ..)) (k := ?_))) | refine WK ?_ | refine All.i fun X => ?_ | refine AllY.i fun Y => ?_))
  refine AWP.cond rfl (fun hc => ?_) (fun hc => ?_)
  · have hc : v = -1 := by simpa using hc
    have hall : (l.filter fun x => !p x) = l := by
      rw [List.filter_eq_self]
      intro x hx
      have h1 : l.findIdx? p = none := by
        unfold idxF at hv
        split at hv
        · omega
        · assumption
      rw [List.findIdx?_eq_none_iff] at h1
      simp [h1 x hx]
    rw [hall]
    (repeat (first | refine WK ?_ | refine All.i fun X => ?_ | refine AllY.i fun Y => ?_))
    (refine AWP.ret ?_; (repeat (first | refine inB_r ?_ | refine andThen_r ?_)); refine retQ_r ?_)
    exact ⟨[.sl X 0 l.length], [.lst true 3 1 (l.map iA)], _, [], .cons (.tmp rfl) rfl .nil, .cons (.cell (.sl (p := 0) .here (by simp))) .nil, by exact Sub.f, rfl, rfl⟩
  · have hc : v ≠ -1 := by simpa using hc
    obtain ⟨i0, hi0⟩ : ∃ i0 : Nat, v = i0 := ⟨v.toNat, by omega⟩
    subst hi0
    have hfi : l.findIdx? p = some i0 := by
      unfold idxF at hv
      split at hv
      · rename_i i hi; rw [hi]; congr 1; omega
      · omega
    obtain ⟨hil, hpi, hmin⟩ := List.findIdx?_eq_some_iff_getElem.1 hfi
    have ht0 : (l.take (i0 + 1)).filter (fun x => !p x) = l.take i0 := by
      rw [List.take_succ_eq_append_getElem hil, List.filter_append]
      rw [show ([l[i0]].filter fun x => !p x) = [] by simp [hpi], List.append_nil, List.filter_eq_self]
      intro x hx
      obtain ⟨j, hj, rfl⟩ := List.mem_take_iff_getElem.1 hx
      have := hmin j (by omega)
      simp at this ⊢
      exact this
    (repeat (first | refine WK ?_ | refine All.i fun X => ?_ | refine AllY.i fun Y => ?_))
    refine AWP.lp3 (fun (i j : Nat) (M : List AV) => ⟨[(0, .sl X 0 l.length), (1, .fn f cap), (5, iA i), (6, iA j)], (X, .row 3 1 M) :: Sf⟩) (fun i j M => i < j ∧ j ≤ l.length ∧ ∃ K : List Int, M = K.map iA ∧ K.length = l.length ∧ K.take i = ((l.take j).filter fun x => !p x) ∧ K.drop j = l.drop j) (fun i j _ => l.length - j) i0 (i0 + 1) (l.map iA) ⟨by omega, hil, l, rfl, rfl, ht0.symm, rfl⟩ ?_
    rintro i j M ⟨hij, hj, K, rfl, hM, h1, h2⟩
    (repeat (first | refine WK ?_ | refine All.i fun X => ?_ | refine AllY.i fun Y => ?_))
    refine AWP.cond rfl (fun hd => ?_) (fun hd => ?_)
    · have h : j < l.length := by simpa using hd
      have hKj : K[j]? = some l[j] := by
        have := congrArg (fun z => z[0]?) h2
        simpa [h] using this
      have hat : (K.map iA)[j]? = some (iA l[j]) := by rw [List.getElem?_map, hKj]; rfl
      have hKi : i < K.length := by omega
      obtain ⟨b, hb⟩ : ∃ b, p l[j] = b := ⟨_, rfl⟩
      have hfj := hf _ (List.getElem_mem h)
      rw [hb] at hfj
      have htk : (l.take (j + 1)).filter (fun x => !p x) = (l.take j).filter (fun x => !p x) ++ if b then [] else [l[j]] := by
        rw [List.take_succ_eq_append_getElem h, List.filter_append]
        congr 1
        cases b <;> simp [hb]
      (repeat (first | (refine AOps.gN ?_; first | (refine AOps.g_callv ?_; first | refine AOps.k1 (h := (hfj ..)) (k := ?_))) | refine WK ?_ | refine All.i fun X => ?_ | refine AllY.i fun Y => ?_))
      cases b
      · refine AWP.cond_t rfl rfl ?_
        (repeat (first | refine WK ?_ | refine All.i fun X => ?_ | refine AllY.i fun Y => ?_))
        refine lp_next3 (i + 1) (j + 1) _ ⟨by omega, h, K.set i l[j], by rw [List.map_set], by simpa using hM, ?_, ?_⟩
        · rw [htk, ← h1, List.take_add_one, List.take_set, List.set_eq_of_length_le (by rw [List.length_take]; omega), List.getElem?_set_self hKi]
          simp
        · rw [List.drop_set_of_lt (by omega), ← List.drop_drop, h2, List.drop_drop]
      · refine AWP.cond_f rfl rfl ?_
        (repeat (first | refine WK ?_ | refine All.i fun X => ?_ | refine AllY.i fun Y => ?_))
        refine lp_next3 i (j + 1) _ ⟨by omega, h, K, rfl, hM, ?_, ?_⟩
        · rw [h1, htk]; simp
        · rw [← List.drop_drop, h2, List.drop_drop]
    · have h : j = l.length := by rw [decide_eq_false_iff_not] at hd; omega
      subst h
      have h1' : K.take i = l.filter fun x => !p x := by rw [h1, List.take_length]
      have hKl : (K.map iA).length = l.length := by rw [List.length_map, hM]
      have hki : ∀ A B, (List.take (0 + i) (K.map iA) ++ A ++ B).take i = (l.filter fun x => !p x).map iA := fun A B => by
        rw [Nat.zero_add, List.append_assoc, List.take_append_of_le_length (by rw [List.length_take]; omega), List.take_take, Nat.min_self, ← List.map_take, h1']
      have hfl : i = ((l.filter fun x => !p x).map iA).length := by
        rw [← h1', List.length_map, List.length_take]; omega
      (repeat (first | (refine AOps.gN ?_; first | refine AOps.s (W.slice_lo rfl rfl (by exact At.f) rfl (by omega)) rfl ?_ | refine AOps.s (W.clear rfl (by exact At.f) (by first | exact .inl rfl | exact .inr rfl) rfl (by omega)) rfl ?_ | refine AOps.p (W.hi rfl rfl (by exact At.f) rfl (by omega)) rfl ?_) | refine WK ?_ | refine All.i fun X => ?_ | refine AllY.i fun Y => ?_))
      refine AWP.shrink (X := X) i ?_
      rw [hki]
      (refine AWP.ret ?_; (repeat (first | refine inB_r ?_ | refine andThen_r ?_)); refine retQ_r ?_)
      exact ⟨[.sl X 0 i], [.lst true 3 1 ((l.filter fun x => !p x).map iA)], _, [], .cons (.tmp rfl) rfl .nil, .cons (.cell (.sl (p := 0) .here hfl)) .nil, by exact Sub.f, rfl, rfl⟩
end Go.Proofs.Ytcfleoaldoebhaa

namespace Go.Proofs.Ytcfleoaldoebhaa
set_option linter.unusedVariables false
theorem growNilI_ps (n : Nat) (hn : n * 8 ≤ 140737488355328) : PS Try.prog 85 [.prim (.slice none 0 0), iA n] (.lst true 3 1 []) := by
  refine Spec.of (nt := 27) (res := [.tmp 4]) Try.func85 rfl (by kernel_rfl) rfl rfl rfl fun Sf => ?_
  (repeat (first | refine WK ?_ | refine All.i fun X => ?_ | refine AllY.i fun Y => ?_))
  refine AWP.cond_f rfl (decide_eq_false (by omega)) ?_
  (repeat (first | (refine AOps.gN ?_; first | refine AOps.p (W.capN rfl) rfl ?_) | refine WK ?_ | refine All.i fun X => ?_ | refine AllY.i fun Y => ?_))
  refine AWP.cond rfl (fun hc => ?_) (fun hc => ?_)
  · have hc : 0 < n := by rw [decide_eq_true_eq] at hc; omega
    (repeat (first | (refine AOps.gN ?_; first | refine AOps.p (W.capN rfl) rfl ?_ | refine AOps.p (W.sliceN rfl rfl) rfl ?_ | (refine AOps.g_app2 ?_; refine AOps.appzN (n := n) (fun Y => ?_) hc hn (hq := by omega)) | refine AOps.p (W.hi (a := 0) rfl rfl (by exact At.f) rfl (by omega)) rfl ?_) | refine WK ?_ | refine All.i fun X => ?_ | refine AllY.i fun Y => ?_))
    refine AWP.shrink (X := Y) 0 ?_
    (refine AWP.ret ?_; (repeat (first | refine inB_r ?_ | refine andThen_r ?_)); refine retQ_r ?_)
    exact ⟨[.sl Y 0 0], [.lst true 3 1 []], _, [], .cons (.tmp rfl) rfl .nil, .cons (.cell (.sl (p := 0) .here rfl)) .nil, by exact Sub.f, rfl, rfl⟩
  · (repeat (first | refine WK ?_ | refine All.i fun X => ?_ | refine AllY.i fun Y => ?_))
    (refine AWP.ret ?_; (repeat (first | refine inB_r ?_ | refine andThen_r ?_)); refine retQ_r ?_)
    exact ⟨[.prim (.slice none 0 0)], [.lst true 3 1 []], _, [], .cons (.tmp rfl) rfl .nil, .cons (.cell .nil) .nil, by exact Sub.f, rfl, rfl⟩
def lenToI (ls : List (List Int)) (i : Nat) : Nat := ((ls.take i).flatten).length
theorem lenToI_succ {ls : List (List Int)} {i : Nat} (h : i < ls.length) : lenToI ls (i + 1) = lenToI ls i + ls[i].length := by
  unfold lenToI
  rw [List.take_succ_eq_append_getElem h, List.flatten_append, List.length_append]
  simp
theorem lenToI_le (ls : List (List Int)) (i : Nat) : lenToI ls i ≤ ls.flatten.length := by
  unfold lenToI
  have h : ((ls.take i).flatten ++ (ls.drop i).flatten) = ls.flatten := by rw [← List.flatten_append, List.take_append_drop]
  rw [← h, List.length_append]
  omega
theorem concatI_ps (ls : List (List Int)) (hl : ls.length ≤ 4611686018427387903) (hb : ls.flatten.length * 8 ≤ 140737488355328) : PS Try.prog 70 [.lst false 35 1 (ls.map fun l => .lst false 3 1 (l.map iA))] (.lst true 3 1 (ls.flatten.map iA)) := by
  refine Spec.of (nt := 36) (res := [.tmp 2]) Try.func70 rfl (by kernel_rfl) rfl rfl rfl fun Sf => ?_
  have hle := lenToI_le ls
  (repeat (first | refine WK ?_ | refine All.i fun X => ?_ | refine AllY.i fun Y => ?_))
  refine AWP.lp2 (fun (i : Nat) (s : Int) => ⟨[(0, .lst false 35 1 (ls.map fun l => .lst false 3 1 (l.map iA))), (3, iA s), (9, .lst false 35 1 (ls.map fun l => .lst false 3 1 (l.map iA))), (10, iA (ls.map fun l => AV.lst false 3 1 (l.map iA)).length), (11, iA i)], Sf⟩) (fun i s => i ≤ ls.length ∧ s = lenToI ls i) (fun i _ => ls.length - i) 0 0 ⟨Nat.zero_le _, rfl⟩ ?_
  rintro i s ⟨hi, hs⟩
  have h0 := hle i
  (repeat (first | refine WK ?_ | refine All.i fun X => ?_ | refine AllY.i fun Y => ?_))
  refine AWP.cond rfl (fun hc => ?_) (fun hc => ?_)
  · have h : i < ls.length := by rw [decide_eq_true_eq, List.length_map] at hc; omega
    have hs1 := lenToI_succ h
    have h1 := hle (i + 1)
    have hml : (ls[i].map iA).length = ls[i].length := List.length_map _
    (repeat (first | refine WK ?_ | refine All.i fun X => ?_ | refine AllY.i fun Y => ?_))
    refine AWP.cond_f rfl (decide_eq_false (by omega)) ?_
    (repeat (first | refine WK ?_ | refine All.i fun X => ?_ | refine AllY.i fun Y => ?_))
    exact lp_next2 (i + 1) (s + (ls[i].map iA).length) ⟨h, by omega⟩
  · have h : i = ls.length := by rw [decide_eq_false_iff_not, List.length_map] at hc; omega
    subst h
    have hfull : lenToI ls ls.length = ls.flatten.length := by unfold lenToI; rw [List.take_length]
    subst hs
    have hg := growNilI_ps (lenToI ls ls.length) (by rw [hfull]; exact hb)
    (repeat (first | (refine AOps.gN ?_; first | (refine AOps.g_callf ?_; first | refine AOps.t2 (h := hg) fun Y => ?_)) | refine WK ?_ | refine All.i fun X => ?_ | refine AllY.i fun Y => ?_))
    refine AWP.lp4 (fun (i Y m : Nat) (L : List AV) => ⟨[(6, .sl Y 0 m), (25, .lst false 35 1 (ls.map fun l => .lst false 3 1 (l.map iA))), (26, iA (ls.map fun l => AV.lst false 3 1 (l.map iA)).length), (27, iA i)], (Y, .row 3 1 L) :: Sf⟩) (fun i _ m L => i ≤ ls.length ∧ m = L.length ∧ L = ((ls.take i).flatten).map iA) (fun i _ _ _ => ls.length - i) 0 Y 0 [] ⟨Nat.zero_le _, rfl, rfl⟩ ?_
    rintro i Y m L ⟨hi, hm, hL⟩
    have hLl : L.length = lenToI ls i := by rw [hL, List.length_map]; rfl
    (repeat (first | refine WK ?_ | refine All.i fun X => ?_ | refine AllY.i fun Y => ?_))
    refine AWP.cond rfl (fun hd => ?_) (fun hd => ?_)
    · have h : i < ls.length := by rw [decide_eq_true_eq, List.length_map] at hd; omega
      have hs1 := lenToI_succ h
      have h1 := hle (i + 1)
      have hml : (ls[i].map iA).length = ls[i].length := List.length_map _
      have hbd : (m + (ls[i].map iA).length) * 8 ≤ 140737488355328 := by omega
      (repeat (first | refine WK ?_ | refine All.i fun X => ?_ | refine AllY.i fun Y => ?_))
      refine lp_next4 (i + 1) Y _ _ ⟨h, ?_, ?_⟩
      · rw [List.length_append, hm]
      · rw [List.take_succ_eq_append_getElem h, List.flatten_append, List.map_append, ← hL]; simp
    · have h : i = ls.length := by rw [decide_eq_false_iff_not, List.length_map] at hd; omega
      subst h
      rw [List.take_length] at hL
      subst hL
      (repeat (first | refine WK ?_ | refine All.i fun X => ?_ | refine AllY.i fun Y => ?_))
      (refine AWP.ret ?_; (repeat (first | refine inB_r ?_ | refine andThen_r ?_)); refine retQ_r ?_)
      exact ⟨[.sl Y 0 m], [.lst true 3 1 (ls.flatten.map iA)], _, [], .cons (.tmp rfl) rfl .nil, .cons (.cell (.sl (p := 0) .here hm)) .nil, by exact Sub.f, rfl, rfl⟩
end Go.Proofs.Ytcfleoaldoebhaa

namespace Go.Proofs.Ytcfleoaldoebhaa
set_option linter.unusedVariables false
theorem flds_at {ks : List Kind} {i : Int} {j : Nat} (hi : i = j) (hj : j < ks.length) : flds ks i = (ks[j].fields.map fieldA).length := by
  unfold flds
  rw [hi, show ((j : Int)).toNat = j from rfl, List.getElem?_eq_getElem hj, List.length_map]
theorem arg_po (G : Nat) (ks : List Kind) (seen l : List Int) (hk : KindsOK ks) (h0 : seen ≠ []) (hs : ∀ x ∈ seen, 0 ≤ x ∧ x < ks.length) (hl : seen.length ≤ 4398046511104) : PO Try.prog 71 [.fp [.ptr G 0 0], .fp [intsA false seen], .fp [kindsA false false ks]] G (streamO l) (argA (argOf ks seen l).1) (streamO (argOf ks seen l).2) := by
  refine Spec.of (nt := 30) (res := [.cell 3 129]) Try.func71 rfl (by kernel_rfl) rfl rfl rfl fun Sf => ?_
  have h2 := nextV_range l (n := 2) (by decide)
  have hn0 : 0 < seen.length := List.length_pos_iff.2 h0
  have hv := nextV_range (nextL l 2) (n := seen.length) (by omega)
  obtain ⟨i, hi⟩ : ∃ i : Nat, nextV (nextL l 2) seen.length = i := ⟨(nextV (nextL l 2) seen.length).toNat, by omega⟩
  have hil : i < seen.length := by omega
  obtain ⟨j, hj⟩ : ∃ j : Nat, seen[i] = j := ⟨seen[i].toNat, by have := hs _ (List.getElem_mem hil); omega⟩
  have hjl : j < ks.length := by have := hs _ (List.getElem_mem hil); omega
  obtain ⟨hk0, hk1⟩ := hk
  have hfl := (hk1 _ (List.getElem_mem hjl)).1
  (repeat (first | (refine AOps.gN ?_; first | (refine AOps.g_callf ?_; first | refine AOps.o2 (h := (next_po G _ _ (by decide))) (k := ?_))) | refine WK ?_ | refine All.i fun R => ?_ | refine AllY.i fun Y => ?_))
  refine AWP.cond rfl (fun hb => ?_) (fun hb => ?_)
  · have hb : nextV l 2 = 0 := by simpa using hb
    have h20 := nextV_range (nextL l 2) (n := 20) (by decide)
    (repeat (first | (refine AOps.gN ?_; first | (refine AOps.g_callf ?_; first | refine AOps.o2 (h := (next_po G _ _ (by decide))) (k := ?_))) | refine WK ?_ | refine All.i fun X => ?_ | refine AllY.i fun Y => ?_))
    (refine AWP.ret ?_; (repeat (first | refine inB_r ?_ | refine andThen_r ?_)); refine retQ_r ?_)
    have he : argOf ks seen l = (⟨false, nextV (nextL l 2) 20 - 6, ⟨0, 0⟩⟩, nextL (nextL l 2) 20) := by rw [argOf, if_pos hb]
    rw [he]
    exact Ends.idS (rs := [argA ⟨false, nextV (nextL l 2) 20 - 6, ⟨0, 0⟩⟩]) rfl rfl (.cons (.cell (p := 0) rfl .here TAg.h TSize.h rfl rfl) rfl .nil)
  · have hb : nextV l 2 ≠ 0 := by simpa using hb
    obtain ⟨l1, hl1⟩ : ∃ l1, nextL l 2 = l1 := ⟨_, rfl⟩
    rw [hl1] at hi hv ⊢
    have hfd := flds_at (ks := ks) hj hjl
    have hsd : seen.getD (nextV l1 seen.length).toNat 0 = seen[i] := by rw [hi]; simp [hil]
    have he : argOf ks seen l = (⟨true, 0, ⟨seen[i], nextV (nextL l1 seen.length) (flds ks seen[i])⟩⟩, nextL (nextL l1 seen.length) (flds ks seen[i])) := by rw [argOf, if_neg hb, hl1, hsd]
    rw [he, hfd]
    have hon : PO Try.prog 43 [.ptr G 0 0, iA (seen.map iA).length] G (streamO l1) (iA i) (streamO (nextL l1 seen.length)) := by
      have := next_po G l1 seen.length (by omega)
      rw [hi] at this
      rw [List.length_map]
      exact this
    have hon2 := next_po G (nextL l1 seen.length) (ks[j].fields.map fieldA).length (by rw [List.length_map]; omega)
    rw [hj] at he ⊢
    (repeat refine WF ?_); refine AWP.region_run (by kernel_rfl) (by kernel_rfl) ?_; (repeat (first | (refine RGo.gN ?_; first | (refine RGo.g_callf ?_; first | refine RGo.o2 (h := (hon ..)) (k := ?_))) | (refine RGo.gQ ?_; first | (refine RGo.g_callf ?_; first | refine RGo.o2 (h := (hon ..)) (k := ?_))) | refine RK ?_ | refine RGo.nil (by kernel_rfl) ?_))
    rw [hj]
    (repeat refine WF ?_); refine AWP.region_run (by kernel_rfl) (by kernel_rfl) ?_; (repeat (first | (refine RGo.gN ?_; first | (refine RGo.g_callf ?_; first | refine RGo.o2 (h := (hon2 ..)) (k := ?_))) | (refine RGo.gQ ?_; first | (refine RGo.g_callf ?_; first | refine RGo.o2 (h := (hon2 ..)) (k := ?_))) | refine RK ?_ | refine RGo.nil (by kernel_rfl) ?_))
    (repeat (first | refine WK ?_ | refine All.i fun X => ?_ | refine AllY.i fun Y => ?_))
    (refine AWP.ret ?_; (repeat (first | refine inB_r ?_ | refine andThen_r ?_)); refine retQ_r ?_)
    exact Ends.idS (rs := [argA ⟨true, 0, ⟨j, nextV (nextL l1 seen.length) (ks[j].fields.map fieldA).length⟩⟩]) rfl rfl (.cons (.cell (p := 0) rfl .here TAg.h TSize.h rfl rfl) rfl .nil)
theorem argOf_ok (ks : List Kind) (seen l : List Int) (hk : KindsOK ks) (hf : ∀ k ∈ ks, k.fields ≠ []) (h0 : seen ≠ []) (hs : ∀ x ∈ seen, 0 ≤ x ∧ x < ks.length) : ArgOK ks seen (argOf ks seen l).1 := by
  have hn0 : 0 < seen.length := List.length_pos_iff.2 h0
  have hv := nextV_range (nextL l 2) (n := seen.length) (by omega)
  have h20 := nextV_range (nextL l 2) (n := 20) (by decide)
  unfold argOf ArgOK
  split
  · exact ⟨fun h => (by cases h), fun _ => ⟨by show -6 ≤ nextV (nextL l 2) 20 - 6; omega, by show nextV (nextL l 2) 20 - 6 ≤ 13; omega, rfl⟩⟩
  · obtain ⟨i, hi⟩ : ∃ i : Nat, nextV (nextL l 2) seen.length = i := ⟨(nextV (nextL l 2) seen.length).toNat, by omega⟩
    have hil : i < seen.length := by omega
    have hsd : seen.getD (nextV (nextL l 2) seen.length).toNat 0 = seen[i] := by rw [hi]; simp [hil]
    obtain ⟨j, hj⟩ : ∃ j : Nat, seen[i] = j := ⟨seen[i].toNat, by have := hs _ (List.getElem_mem hil); omega⟩
    have hjl : j < ks.length := by have := hs _ (List.getElem_mem hil); omega
    have hfd := flds_at (ks := ks) hj hjl
    have hfp : 0 < ks[j].fields.length := List.length_pos_iff.2 (hf _ (List.getElem_mem hjl))
    rw [List.length_map] at hfd
    have hv2 := nextV_range (nextL (nextL l 2) seen.length) (n := flds ks seen[i]) (by omega)
    rw [hsd]
    exact ⟨fun _ => ⟨rfl, ⟨(hs _ (List.getElem_mem hil)).1, (hs _ (List.getElem_mem hil)).2, hv2.1, hv2.2⟩, List.getElem_mem hil⟩, fun h => (by cases h)⟩
theorem pw_len : ∀ {l : List Int} {a n : Int}, l.Pairwise (· < ·) → (∀ x ∈ l, a ≤ x ∧ x < n) → a ≤ n → (l.length : Int) ≤ n - a
  | [], a, n, _, _, h => by simp; omega
  | x :: l, a, n, hp, hr, _ => by
    have hx := hr x (by simp)
    rw [List.pairwise_cons] at hp
    have := pw_len (a := x + 1) (n := n) hp.2 (fun y hy => ⟨by have := hp.1 y hy; omega, (hr y (by simp [hy])).2⟩) (by omega)
    simp only [List.length_cons]
    omega
structure Sys2 where
  j : Nat
  A : Nat
  m : Nat
  M : List AV
  sp : List Comp
  q : List Int
structure Sys2.OK (ks : List Kind) (w3 w4 : List Int) (c : Nat) (b : Sys2) : Prop where
  le : b.j ≤ c
  e : ∃ ops : List Op, b.M = ops.map opA ∧ ∀ o ∈ ops, OpOK ks w3 w4 o
  m : b.m = b.M.length
  mj : b.m = b.j
  sp : b.sp = [] ∨ ∃ q, b.sp = (genComps ks q).1
/-- The states of the first loop of system. -/
structure Sys1 where
  i : Nat
  A1 : Nat
  A2 : Nat
  A3 : Nat
  A4 : Nat
  n1 : Nat
  n2 : Nat
  n3 : Nat
  n4 : Nat
  M1 : List AV
  M2 : List AV
  M3 : List AV
  M4 : List AV
  q : List Int
structure Sys1.OK (ks : List Kind) (b : Sys1) : Prop where
  le : b.i ≤ ks.length
  e : ∃ w1 w2 w3 w4, b.M1 = w1.map iA ∧ b.M2 = w2.map iA ∧ b.M3 = w3.map iA ∧ b.M4 = w4.map iA ∧ SysL w1 w2 w3 w4 b.i
  n1 : b.n1 = b.M1.length
  n2 : b.n2 = b.M2.length
  n3 : b.n3 = b.M3.length
  n4 : b.n4 = b.M4.length
  b1 : b.n1 ≤ b.i
  b2 : b.n2 ≤ b.i
  b3 : b.n3 ≤ b.i
  b4 : b.n4 ≤ b.i
theorem sysNames_at {i : Nat} (h : i < 6) : [sA [111, 110, 101], sA [116, 119, 111], sA [116, 104, 114, 101, 101], sA [102, 111, 117, 114], sA [102, 105, 118, 101], sA [115, 105, 120]][i]? = some (sA (sysName i)) := by
  have : i = 0 ∨ i = 1 ∨ i = 2 ∨ i = 3 ∨ i = 4 ∨ i = 5 := by omega
  rcases this with rfl | rfl | rfl | rfl | rfl | rfl <;> rfl
theorem isZero_ps (x : Int) : PS Try.prog 69 [iA x] (bA (decide (x = 0))) := by
  refine Spec.of (nt := 5) (res := [.tmp 2]) Try.func69 rfl (by kernel_rfl) rfl rfl rfl fun Sf => ?_
  (repeat (first | refine WK ?_ | refine All.i fun X => ?_ | refine AllY.i fun Y => ?_))
  (refine AWP.ret ?_; (repeat (first | refine inB_r ?_ | refine andThen_r ?_)); refine retQ_r ?_); refine Ends.ps ?_
  rfl
abbrev sys0 : AO := .row 72 7 [.agg [.prim (.string ByteArray.empty), .prim (.slice none 0 0), .prim (.slice none 0 0), .prim (.slice none 0 0), .prim (.slice none 0 0), .prim (.slice none 0 0), .prim (.slice none 0 0)]]
set_option maxHeartbeats 1000000 in
/-- The system that system returns: valid. -/
theorem system_sp (G : Nat) (ks : List Kind) (l : List Int) (n : Nat) (hk : KindsOK ks) (hf : ∀ k ∈ ks, k.fields ≠ []) (h0 : ks ≠ []) (hn : n < 6) : Spec Try.prog 49 [kindsA false false ks, .ptr G 0 0, iA n] [(G, streamO l)] fun r S' => ∃ b : Sys × List Int, SysOK ks n b.1 ∧ r = sysA false b.1 ∧ S' = [(G, streamO b.2)] := by
  refine Spec.of (nt := 187) (res := [.cell 6 72]) Try.func49 rfl (by kernel_rfl) rfl rfl rfl fun Sf => ?_
  have hkn := sysNames_at hn
  have hks := hk.1
  have hk1 : 0 < ks.length := List.length_pos_iff.2 h0
  (repeat refine WF ?_); refine AWP.region ?_; (repeat (first | (refine AOps.gN ?_; first | (refine AOps.g_box ?_; refine AOps.goB ?_)) | refine WO ?_ | refine All.i fun R => ?_ | refine AllY.i fun Y => ?_)); refine AOps.nil ?_; (repeat refine WN ?_)
  (repeat refine WF ?_); refine AWP.region ?_; (repeat (first | refine WO ?_ | refine All.i fun X => ?_ | refine AllY.i fun Y => ?_)); refine AOps.nil ?_; (repeat refine WN ?_)
  refine AWP.nilIn 58 2 (Y := X) (.cons (.agg (.cons .same (.cons .same (.cons .same (.cons .same (.cons .same (.cons .same (.cons (.base .nil) .nil)))))))) .nil) ?_
  refine AWP.adoptIn (Y := X) 131 11 (by exact At.f) (fun F => .cons (.agg (.cons .same (.cons .same (.cons .same (.cons .same (.cons .same (.cons (.base .nil) (.cons .same .nil)))))))) .nil) fun A5 => ?_
  refine AWP.adoptIn (Y := X) 3 1 (by exact At.f) (fun F => .cons (.agg (.cons .same (.cons .same (.cons .same (.cons .same (.cons (.base .nil) (.cons .same (.cons .same .nil)))))))) .nil) fun A4 => ?_
  refine AWP.adoptIn (Y := X) 3 1 (by exact At.f) (fun F => .cons (.agg (.cons .same (.cons .same (.cons .same (.cons (.base .nil) (.cons .same (.cons .same (.cons .same .nil)))))))) .nil) fun A3 => ?_
  refine AWP.adoptIn (Y := X) 3 1 (by exact At.f) (fun F => .cons (.agg (.cons .same (.cons .same (.cons (.base .nil) (.cons .same (.cons .same (.cons .same (.cons .same .nil)))))))) .nil) fun A2 => ?_
  refine AWP.adoptIn (Y := X) 3 1 (by exact At.f) (fun F => .cons (.agg (.cons .same (.cons (.base .nil) (.cons .same (.cons .same (.cons .same (.cons .same (.cons .same .nil)))))))) .nil) fun A1 => ?_
  (repeat refine WF ?_); refine AWP.region ?_; (repeat (first | refine WO ?_ | refine All.i fun X => ?_ | refine AllY.i fun Y => ?_)); refine AOps.nil ?_; (repeat refine WN ?_)
  (repeat first | refine AOps.nil ?_ | refine WF ?_)
  refine AWP.lp (fun b : Sys1 => ⟨[(3, .fp [kindsA false false ks]), (4, .fp [.ptr G 0 0]), (6, .ptr R 0 0), (7, .ptr X 0 0), (19, iA (ks.map (kindA false)).length), (20, iA b.i)], (b.A1, .row 3 1 b.M1) :: (b.A2, .row 3 1 b.M2) :: (b.A3, .row 3 1 b.M3) :: (b.A4, .row 3 1 b.M4) :: (A5, .row 131 11 []) :: (X, .row 72 7 [.agg [sA (sysName n), .sl b.A1 0 b.n1, .sl b.A2 0 b.n2, .sl b.A3 0 b.n3, .sl b.A4 0 b.n4, .sl A5 0 0, .lst false 58 2 []]]) :: (R, sys0) :: (G, streamO b.q) :: Sf⟩) (Sys1.OK ks) (fun b => ks.length - b.i) ⟨0, A1, A2, A3, A4, 0, 0, 0, 0, [], [], [], [], l⟩ ⟨Nat.zero_le _, ⟨[], [], [], [], rfl, rfl, rfl, rfl, SysL.nil _⟩, rfl, rfl, rfl, rfl, Nat.le_refl _, Nat.le_refl _, Nat.le_refl _, Nat.le_refl _⟩ ?_
  rintro ⟨i, A1, A2, A3, A4, n1, n2, n3, n4, M1, M2, M3, M4, q⟩ ⟨hi, ⟨w1, w2, w3, w4, h1, h2, h3, h4, hL⟩, e1, e2, e3, e4, b1, b2, b3, b4⟩
  dsimp only at hi h1 h2 h3 h4 hL e1 e2 e3 e4 b1 b2 b3 b4 ⊢
  have hi40 : i ≤ 1099511627775 ∨ i = ks.length := by omega
  (repeat (first | refine WK ?_ | refine All.i fun X => ?_ | refine AllY.i fun Y => ?_))
  refine AWP.cond rfl (fun hc => ?_) (fun hc => ?_)
  · have h : i < ks.length := by simpa using hc
    have h4' := nextV_range q (n := 4) (by decide)
    have c1 : n1 + 1 ≤ 1099511627776 := by omega
    have c2 : n2 + 1 ≤ 1099511627776 := by omega
    have c3 : n3 + 1 ≤ 1099511627776 := by omega
    have c4 : n4 + 1 ≤ 1099511627776 := by omega
    have ap : ∀ w : List Int, w.map iA ++ [iA (i : Int)] = (w ++ [(i : Int)]).map iA := fun w => by rw [List.map_append]; rfl
    have al : ∀ (m : Nat) (M : List AV), m = M.length → m + 1 = (M ++ [iA (i : Int)]).length := fun m M hm => by rw [List.length_append, hm]; rfl
    (repeat (first | (refine AOps.gN ?_; first | (refine AOps.g_callf ?_; first | refine AOps.o2 (h := (next_po G _ _ (by decide))) (k := ?_))) | refine WK ?_ | refine All.i fun X => ?_ | refine AllY.i fun Y => ?_))
    refine AWP.cond rfl (fun hd => ?_) (fun hd => ?_)
    · refine AWP.rs fun Y1 => AWP.rs fun Y3 => ?_
      (repeat refine WF ?_); refine AWP.region_run (by kernel_rfl) (by kernel_rfl) ?_; (repeat (first | refine RK ?_ | refine RGo.nil (by kernel_rfl) ?_))
      (repeat (first | refine WK ?_ | refine All.i fun X => ?_ | refine AllY.i fun Y => ?_))
      refine lp_next (⟨i + 1, Y3, A2, Y1, A4, n1 + 1, n2, n3 + 1, n4, M1 ++ [iA i], M2, M3 ++ [iA i], M4, nextL q 4⟩ : Sys1) ⟨h, ⟨w1 ++ [(i : Int)], w2, w3 ++ [(i : Int)], w4, ?_, h2, ?_, h4, hL.read (by omega)⟩, al _ _ e1, e2, al _ _ e3, e4, ?_, ?_, ?_, ?_⟩ (by dsimp only; omega)
      · dsimp only; rw [h1, ap]
      · dsimp only; rw [h3, ap]
      all_goals (dsimp only; omega)
    · (repeat (first | refine WK ?_ | refine All.i fun X => ?_ | refine AllY.i fun Y => ?_))
      refine AWP.cond rfl (fun he => ?_) (fun he => ?_)
      · refine AWP.rs fun Y1 => AWP.rs fun Y3 => ?_
        (repeat refine WF ?_); refine AWP.region_run (by kernel_rfl) (by kernel_rfl) ?_; (repeat (first | refine RK ?_ | refine RGo.nil (by kernel_rfl) ?_))
        (repeat (first | refine WK ?_ | refine All.i fun X => ?_ | refine AllY.i fun Y => ?_))
        refine lp_next (⟨i + 1, Y3, A2, A3, Y1, n1 + 1, n2, n3, n4 + 1, M1 ++ [iA i], M2, M3, M4 ++ [iA i], nextL q 4⟩ : Sys1) ⟨h, ⟨w1 ++ [(i : Int)], w2, w3, w4 ++ [(i : Int)], ?_, h2, h3, ?_, hL.write (by omega)⟩, al _ _ e1, e2, e3, al _ _ e4, ?_, ?_, ?_, ?_⟩ (by dsimp only; omega)
        · dsimp only; rw [h1, ap]
        · dsimp only; rw [h4, ap]
        all_goals (dsimp only; omega)
      · (repeat (first | refine WK ?_ | refine All.i fun X => ?_ | refine AllY.i fun Y => ?_))
        refine AWP.cond rfl (fun hg => ?_) (fun hg => ?_)
        · (repeat (first | refine WK ?_ | refine All.i fun X => ?_ | refine AllY.i fun Y => ?_))
          refine lp_next (⟨i + 1, A1, Y, A3, A4, n1, n2 + 1, n3, n4, M1, M2 ++ [iA i], M3, M4, nextL q 4⟩ : Sys1) ⟨h, ⟨w1, w2 ++ [(i : Int)], w3, w4, h1, ?_, h3, h4, hL.without (by omega)⟩, e1, al _ _ e2, e3, e4, ?_, ?_, ?_, ?_⟩ (by dsimp only; omega)
          · dsimp only; rw [h2, ap]
          all_goals (dsimp only; omega)
        · (repeat (first | refine WK ?_ | refine All.i fun X => ?_ | refine AllY.i fun Y => ?_))
          refine lp_next (⟨i + 1, A1, A2, A3, A4, n1, n2, n3, n4, M1, M2, M3, M4, nextL q 4⟩ : Sys1) ⟨h, ⟨w1, w2, w3, w4, h1, h2, h3, h4, hL.weaken (by dsimp only; omega)⟩, e1, e2, e3, e4, ?_, ?_, ?_, ?_⟩ (by dsimp only; omega)
          all_goals (dsimp only; omega)
  · have h : i = ks.length := by rw [decide_eq_false_iff_not, List.length_map] at hc; omega
    subst h
    clear hc b1 b3 b4 hi40 hi
    have f1 : AV.frzs M1 = w1.map iA := by rw [h1]; exact Frzs.h
    have f2 : AV.frzs M2 = w2.map iA := by rw [h2]; exact Frzs.h
    have f3 : AV.frzs M3 = w3.map iA := by rw [h3]; exact Frzs.h
    have f4 : AV.frzs M4 = w4.map iA := by rw [h4]; exact Frzs.h
    (repeat refine WF ?_); refine AWP.region ?_; (repeat (first | refine WO ?_ | refine All.i fun X => ?_ | refine AllY.i fun Y => ?_)); refine AOps.nil ?_; (repeat refine WN ?_)
    refine AWP.joinS (fun b : List Int × List Int × List Int × List Int => SysL b.1 b.2.1 b.2.2.1 b.2.2.2 ks.length ∧ b.1 ≠ []) (fun b => ⟨[(3, .fp [kindsA false false ks]), (4, .fp [.ptr G 0 0]), (6, .ptr R 0 0), (7, .ptr X 0 0)], (A5, .row 131 11 []) :: (X, .row 72 7 [.agg [sA (sysName n), intsA false b.1, intsA false b.2.1, intsA false b.2.2.1, intsA false b.2.2.2, .sl A5 0 0, .lst false 58 2 []]]) :: (R, sys0) :: (G, streamO q) :: Sf⟩) ?_ ?_
    · refine AWP.cond rfl (fun hd => ?_) (fun hd => ?_)
      · have hd : n1 = 0 := by rw [decide_eq_true_eq] at hd; omega
        have hw1 : w1 = [] := List.eq_nil_of_length_eq_zero (by have := congrArg List.length h1; rw [List.length_map] at this; omega)
        have hn2 : n2 = w2.length := by rw [e2, h2, List.length_map]
        have hw2 : w2.length ≤ 1099511627776 := by omega
        have hz := deleteFuncI_sp A2 w2 69 [] (fun x => decide (x = 0)) rfl (by omega) (fun x _ => isZero_ps x)
        subst hn2 h2 hw1
        refine AWP.rs fun Y2 => ?_
        (repeat refine WF ?_); refine AWP.region ?_; (repeat (first | (refine AOps.gN ?_; first | (refine AOps.g_callf ?_; first | refine AOps.z2 (h := hz.used) (hT := .ls (Y := Y2)) (k := ?_))) | refine WO ?_ | refine All.i fun X => ?_ | refine AllY.i fun Y => ?_))
        have g2 : AV.frzs ((w2.filter fun x => !decide (x = 0)).map iA) = (w2.filter fun x => !decide (x = 0)).map iA := Frzs.h
        refine AOps.iceX Y2 ((w2.filter fun x => !decide (x = 0)).map iA) g2 (.cons (.agg (.cons .same (.cons .same (.cons (.base .sl) (.cons .same (.cons .same (.cons .same (.cons .same .nil)))))))) .nil) ?_
        refine AOps.iceX A3 (w3.map iA) f3 (.cons (.agg (.cons .same (.cons .same (.cons .same (.cons (.base .sl) (.cons .same (.cons .same (.cons .same .nil)))))))) .nil) ?_
        (repeat (first | refine WK ?_ | refine All.i fun X => ?_ | refine AllY.i fun Y => ?_))
        exact jn ([0], w2.filter fun x => !decide (x = 0), w3, [0]) ⟨hL.zero (by omega), by simp⟩
      · have hd : n1 ≠ 0 := by rw [decide_eq_false_iff_not] at hd; omega
        have hw1 : w1 ≠ [] := by rintro rfl; rw [h1] at e1; exact hd e1
        refine AWP.iceX A1 (w1.map iA) f1 (.cons (.agg (.cons .same (.cons (.base .sl) (.cons .same (.cons .same (.cons .same (.cons .same (.cons .same .nil)))))))) .nil) ?_
        refine AWP.iceX A2 (w2.map iA) f2 (.cons (.agg (.cons .same (.cons .same (.cons (.base .sl) (.cons .same (.cons .same (.cons .same (.cons .same .nil)))))))) .nil) ?_
        refine AWP.iceX A3 (w3.map iA) f3 (.cons (.agg (.cons .same (.cons .same (.cons .same (.cons (.base .sl) (.cons .same (.cons .same (.cons .same .nil)))))))) .nil) ?_
        refine AWP.iceX A4 (w4.map iA) f4 (.cons (.agg (.cons .same (.cons .same (.cons .same (.cons .same (.cons (.base .sl) (.cons .same (.cons .same .nil)))))))) .nil) ?_
        (repeat (first | refine WK ?_ | refine All.i fun X => ?_ | refine AllY.i fun Y => ?_))
        exact jn (w1, w2, w3, w4) ⟨hL, hw1⟩
    · rintro ⟨w1, w2, w3, w4⟩ ⟨hL, hne⟩
      dsimp only at hL hne ⊢
      have hr3 : ∀ x ∈ w3, 0 ≤ x ∧ x < ks.length := fun x hx => hL.r1 x (hL.s3 x hx)
      have hr4 : ∀ x ∈ w4, 0 ≤ x ∧ x < ks.length := fun x hx => hL.r1 x (hL.s4 x hx)
      have hl3 := pw_len hL.o3 hr3 (by omega)
      have hl4 := pw_len hL.o4 hr4 (by omega)
      have hfl : [w3, w4].flatten = w3 ++ w4 := by simp
      have hcc := concatI_ps [w3, w4] (by simp) (by rw [hfl, List.length_append]; omega)
      rw [hfl] at hcc
      have hsr : ∀ x ∈ w3 ++ w4, 0 ≤ x ∧ x < ks.length := fun x hx => by rcases List.mem_append.1 hx with h | h; exact hr3 x h; exact hr4 x h
      have hsn : w3 ++ w4 ≠ [] := by
        intro e0
        obtain ⟨x, hx⟩ := List.exists_mem_of_ne_nil _ hne
        rcases hL.all x hx with h | h
        · have : x ∈ w3 ++ w4 := by simp [h]
          rw [e0] at this; cases this
        · have : x ∈ w3 ++ w4 := by simp [h]
          rw [e0] at this; cases this
      have hap := fun l => arg_po G ks (w3 ++ w4) l hk hsn hsr (by rw [List.length_append]; omega)
      have hao := fun l => argOf_ok ks (w3 ++ w4) l hk hf hsn hsr
      have hw4 : 0 ≤ nextV q 6 ∧ nextV q 6 < 6 := nextV_range q (by decide)
      obtain ⟨c, hc⟩ : ∃ c : Nat, nextV q 6 = c := ⟨(nextV q 6).toNat, by omega⟩
      obtain ⟨q0, hq0⟩ : ∃ q0, nextL q 6 = q0 := ⟨_, rfl⟩
      (repeat refine WF ?_); refine AWP.region ?_; (repeat (first | (refine AOps.gN ?_; first | (refine AOps.g_callf ?_; first | refine AOps.c1 (h := (hcc ..)) (k := ?_))) | refine WO ?_ | refine All.i fun V => ?_ | refine AllY.i fun Y => ?_)); refine AOps.nil ?_; (repeat refine WN ?_)
      refine AWP.iceP [9] (X := V) (by exact At.f) ?_ (by intro d hd; simp only [List.mem_singleton] at hd; subst hd; rfl)
      (repeat refine WF ?_); refine AWP.region ?_; (repeat (first | refine WO ?_ | refine All.i fun X => ?_ | refine AllY.i fun Y => ?_)); refine AOps.nil ?_; (repeat refine WN ?_)
      (repeat refine WF ?_); refine AWP.region ?_; (repeat (first | (refine AOps.gN ?_; first | (refine AOps.g_callf ?_; first | refine AOps.o2 (h := (next_po G _ _ (by decide))) (k := ?_))) | refine WO ?_ | refine All.i fun X => ?_ | refine AllY.i fun Y => ?_)); refine AOps.nil ?_; (repeat refine WN ?_)
      rw [hc, hq0]
      (repeat first | refine AOps.nil ?_ | refine WF ?_)
      refine AWP.lp (fun b : Sys2 => ⟨[(3, .fp [kindsA false false ks]), (4, .fp [.ptr G 0 0]), (6, .ptr R 0 0), (7, .ptr X 0 0), (10, .fn 71 [.fp [.ptr G 0 0], .fp [intsA false (w3 ++ w4)], .fp [kindsA false false ks]]), (82, iA c), (83, iA b.j)], (b.A, .row 131 11 b.M) :: (X, .row 72 7 [.agg [sA (sysName n), intsA false w1, intsA false w2, intsA false w3, intsA false w4, .sl b.A 0 b.m, .lst false 58 2 (b.sp.map (compA false))]]) :: (R, sys0) :: (G, streamO b.q) :: Sf⟩) (Sys2.OK ks w3 w4 c) (fun b => c - b.j) ⟨0, A5, 0, [], [], q0⟩ ⟨Nat.zero_le _, ⟨[], rfl, by simp⟩, rfl, rfl, .inl rfl⟩ ?_
      rintro ⟨j, A, m, M, sp, q⟩ ⟨hj, ⟨ops, hM, hO⟩, hm, hmj, hsp⟩
      dsimp only at hj hM hm hmj hsp ⊢
      (repeat (first | refine WK ?_ | refine All.i fun X => ?_ | refine AllY.i fun Y => ?_))
      refine AWP.cond rfl (fun hd => ?_) (fun hd => ?_)
      · have hjc : j < c := by rw [decide_eq_true_eq] at hd; omega
        have hd13 := nextV_range q (n := 13) (by decide)
        obtain ⟨d, hdd⟩ : ∃ d, nextV q 13 = d := ⟨_, rfl⟩
        obtain ⟨q1, hq1⟩ : ∃ q1, nextL q 13 = q1 := ⟨_, rfl⟩
        have ha := hao q1
        have hap1 := hap q1
        obtain ⟨a, haa⟩ : ∃ a, (argOf ks (w3 ++ w4) q1).1 = a := ⟨_, rfl⟩
        obtain ⟨q2, hq2⟩ : ∃ q2, (argOf ks (w3 ++ w4) q1).2 = q2 := ⟨_, rfl⟩
        rw [haa] at ha hap1
        rw [hq2] at hap1
        have hn13 := next_po G q 13 (by decide)
        rw [hdd, hq1] at hn13
        rw [hdd] at hd13
        (repeat refine WF ?_); refine AWP.region ?_; (repeat (first | (refine AOps.gN ?_; first | (refine AOps.g_callf ?_; first | refine AOps.o2 (h := (hn13 ..)) (k := ?_)) | (refine AOps.g_callv ?_; first | refine AOps.q0 (h := (hap1 ..)) (k := ?_))) | refine WO ?_ | refine All.i fun O => ?_ | refine AllY.i fun Y => ?_)); refine AOps.nil ?_; (repeat refine WN ?_)
        (repeat refine WF ?_); refine AWP.region ?_; (repeat (first | refine WO ?_ | refine All.i fun X => ?_ | refine AllY.i fun Y => ?_)); refine AOps.nil ?_; (repeat refine WN ?_)
        refine AWP.joinS (fun b : Arg × List Int => if twoOp d then ArgOK ks (w3 ++ w4) b.1 else b.1 = arg0) (fun b => ⟨[(3, .fp [kindsA false false ks]), (4, .fp [.ptr G 0 0]), (6, .ptr R 0 0), (7, .ptr X 0 0), (10, .fn 71 [.fp [.ptr G 0 0], .fp [intsA false (w3 ++ w4)], .fp [kindsA false false ks]]), (11, .ptr O 0 0), (82, iA c), (83, iA j)], (O, .row 131 11 [opA ⟨d, ⟨0, 0⟩, a, b.1⟩]) :: (A, .row 131 11 M) :: (X, .row 72 7 [.agg [sA (sysName n), intsA false w1, intsA false w2, intsA false w3, intsA false w4, .sl A 0 m, .lst false 58 2 (sp.map (compA false))]]) :: (R, sys0) :: (G, streamO b.2) :: Sf⟩) ?_ ?_
        · refine AWP.cond rfl (fun hg => ?_) (fun hg => ?_)
          · have htw : twoOp d = true := by
              unfold twoOp
              simp only [Bool.or_eq_true, Bool.and_eq_true, decide_eq_true_eq] at hg ⊢
              omega
            have hap2 := hap q2
            have ha2 := hao q2
            (repeat (first | (refine AOps.gN ?_; first | (refine AOps.g_callv ?_; first | refine AOps.q0 (h := (hap2 ..)) (k := ?_))) | refine WK ?_ | refine All.i fun X => ?_ | refine AllY.i fun Y => ?_))
            exact jn ((argOf ks (w3 ++ w4) q2).1, (argOf ks (w3 ++ w4) q2).2) (by rw [if_pos htw]; exact ha2)
          · have htw : twoOp d = false := by
              unfold twoOp
              simp only [Bool.or_eq_false_iff, Bool.and_eq_false_iff, decide_eq_false_iff_not] at hg ⊢
              omega
            (repeat (first | refine WK ?_ | refine All.i fun X => ?_ | refine AllY.i fun Y => ?_))
            exact jn (arg0, q2) (by rw [htw]; rfl)
        · rintro ⟨b, q3⟩ hb
          dsimp only at hb ⊢
          refine AWP.join (fun b : Op × List Comp × List Int => OpOK ks w3 w4 b.1 ∧ (b.2.1 = [] ∨ ∃ q, b.2.1 = (genComps ks q).1)) (fun b => ⟨[(3, .fp [kindsA false false ks]), (4, .fp [.ptr G 0 0]), (6, .ptr R 0 0), (7, .ptr X 0 0), (10, .fn 71 [.fp [.ptr G 0 0], .fp [intsA false (w3 ++ w4)], .fp [kindsA false false ks]]), (11, .ptr O 0 0), (82, iA c), (83, iA j)], (O, .row 131 11 [opA b.1]) :: (A, .row 131 11 M) :: (X, .row 72 7 [.agg [sA (sysName n), intsA false w1, intsA false w2, intsA false w3, intsA false w4, .sl A 0 m, .lst false 58 2 (b.2.1.map (compA false))]]) :: (R, sys0) :: (G, streamO b.2.2) :: Sf⟩) ?_ ?_
          · (repeat (first | refine WK ?_ | refine All.i fun X => ?_ | refine AllY.i fun Y => ?_))
            refine AWP.cond rfl (fun hg => ?_) (fun hg => ?_)
            · have hap3 := hap q3
              have ha3 := hao q3
              (repeat refine WF ?_); refine AWP.region_run (by kernel_rfl) (by kernel_rfl) ?_; (repeat (first | (refine RGo.gN ?_; first | (refine RGo.g_callv ?_; first | refine RGo.q0 (h := (hap3 ..)) (k := ?_))) | (refine RGo.gQ ?_; first | (refine RGo.g_callv ?_; first | refine RGo.q0 (h := (hap3 ..)) (k := ?_))) | refine RK ?_ | refine RGo.nil (by kernel_rfl) ?_))
              (repeat (first | refine WK ?_ | refine All.i fun X => ?_ | refine AllY.i fun Y => ?_))
              exact jn (⟨12, ⟨0, 0⟩, a, (argOf ks (w3 ++ w4) q3).1⟩, sp, (argOf ks (w3 ++ w4) q3).2) ⟨⟨by dsimp only; omega, by dsimp only; omega, ha, ha3, fun h => by dsimp only at h; omega, fun h => by dsimp only at h; omega, fun _ => rfl⟩, hsp⟩
            · have hg' : ¬ (d ≤ 7 ∧ w4.length = 0) := by
                simp only [Bool.and_eq_false_iff, decide_eq_false_iff_not, List.length_map] at hg
                omega
              (repeat (first | refine WK ?_ | refine All.i fun X => ?_ | refine AllY.i fun Y => ?_))
              refine AWP.cond rfl (fun hs => ?_) (fun hs => ?_)
              · have hs : d ≤ 7 := by simpa using hs
                have hw0 : 0 < w4.length := by omega
                have hv := nextV_range q3 (n := w4.length) (by omega)
                obtain ⟨i, hi⟩ : ∃ i : Nat, nextV q3 w4.length = i := ⟨(nextV q3 w4.length).toNat, by omega⟩
                have hil : i < w4.length := by omega
                obtain ⟨k, hk4⟩ : ∃ k : Nat, w4[i] = k := ⟨w4[i].toNat, by have := hr4 _ (List.getElem_mem hil); omega⟩
                have hkl : k < ks.length := by have := hr4 _ (List.getElem_mem hil); omega
                have hkm : (k : Int) ∈ w4 := by rw [← hk4]; exact List.getElem_mem hil
                have hkf := (hk.2 _ (List.getElem_mem hkl)).1
                have hfd := flds_at (ks := ks) (i := k) rfl hkl
                have hfp : 0 < ks[k].fields.length := List.length_pos_iff.2 (hf _ (List.getElem_mem hkl))
                have hon : PO Try.prog 43 [.ptr G 0 0, iA (w4.map iA).length] G (streamO q3) (iA i) (streamO (nextL q3 w4.length)) := by
                  have := next_po G q3 w4.length (by omega)
                  rw [hi] at this
                  rw [List.length_map]
                  exact this
                have hon2 := next_po G (nextL q3 w4.length) (ks[k].fields.map fieldA).length (by rw [List.length_map]; omega)
                have hv2 := nextV_range (nextL q3 w4.length) (n := (ks[k].fields.map fieldA).length) (by rw [List.length_map]; omega)
                (repeat refine WF ?_); refine AWP.region_run (by kernel_rfl) (by kernel_rfl) ?_; (repeat (first | (refine RGo.gN ?_; first | (refine RGo.g_callf ?_; first | refine RGo.o2 (h := (hon ..)) (k := ?_))) | (refine RGo.gQ ?_; first | (refine RGo.g_callf ?_; first | refine RGo.o2 (h := (hon ..)) (k := ?_))) | refine RK ?_ | refine RGo.nil (by kernel_rfl) ?_))
                rw [hk4]
                (repeat refine WF ?_); refine AWP.region_run (by kernel_rfl) (by kernel_rfl) ?_; (repeat (first | (refine RGo.gN ?_; first | (refine RGo.g_callf ?_; first | refine RGo.o2 (h := (hon2 ..)) (k := ?_))) | (refine RGo.gQ ?_; first | (refine RGo.g_callf ?_; first | refine RGo.o2 (h := (hon2 ..)) (k := ?_))) | refine RK ?_ | refine RGo.nil (by kernel_rfl) ?_))
                (repeat (first | refine WK ?_ | refine All.i fun X => ?_ | refine AllY.i fun Y => ?_))
                refine jn (⟨d, ⟨k, nextV (nextL q3 w4.length) (ks[k].fields.map fieldA).length⟩, a, b⟩, sp, _) ⟨⟨by dsimp only; omega, by dsimp only; omega, ha, hb, fun _ => ⟨⟨by dsimp only; omega, by dsimp only; omega, hv2.1, by dsimp only; rw [hfd]; exact hv2.2⟩, hkm⟩, fun h => by dsimp only at h; omega, fun h => by dsimp only at h; omega⟩, hsp⟩
              · have hs : ¬ d ≤ 7 := by simpa using hs
                (repeat (first | refine WK ?_ | refine All.i fun X => ?_ | refine AllY.i fun Y => ?_))
                refine AWP.cond rfl (fun hu => ?_) (fun hu => ?_)
                · have hu : d = 8 ∨ d = 9 := by simpa using hu
                  have hon := next_po G q3 (ks.map (kindA false)).length (by rw [List.length_map]; omega)
                  have hv := nextV_range q3 (n := (ks.map (kindA false)).length) (by rw [List.length_map]; omega)
                  have hv2 := hv.2
                  rw [List.length_map] at hv2
                  (repeat (first | (refine AOps.gN ?_; first | (refine AOps.g_callf ?_; first | refine AOps.o2 (h := (hon ..)) (k := ?_))) | refine WK ?_ | refine All.i fun X => ?_ | refine AllY.i fun Y => ?_))
                  refine jn (⟨d, ⟨nextV q3 (ks.map (kindA false)).length, 0⟩, a, b⟩, sp, _) ⟨⟨by dsimp only; omega, by dsimp only; omega, ha, hb, fun h => by dsimp only at h; omega, fun _ => ⟨hv.1, by dsimp only; rw [List.length_map]; exact hv2, rfl⟩, fun h => by dsimp only at h; omega⟩, hsp⟩
                · have hu : ¬ (d = 8 ∨ d = 9) := by simpa using hu
                  (repeat (first | refine WK ?_ | refine All.i fun X => ?_ | refine AllY.i fun Y => ?_))
                  refine AWP.cond rfl (fun hx => ?_) (fun hx => ?_)
                  · have hcp := comps_po G ks q3 hk
                    (repeat (first | (refine AOps.gN ?_; first | (refine AOps.g_callf ?_; first | refine AOps.o2 (h := (hcp ..)) (k := ?_))) | refine WK ?_ | refine All.i fun X => ?_ | refine AllY.i fun Y => ?_))
                    refine jn (⟨d, ⟨0, 0⟩, a, b⟩, (genComps ks q3).1, (genComps ks q3).2) ⟨⟨by dsimp only; omega, by dsimp only; omega, ha, hb, fun h => by dsimp only at h; omega, fun h => by dsimp only at h; omega, fun _ => rfl⟩, .inr ⟨q3, rfl⟩⟩
                  · (repeat (first | refine WK ?_ | refine All.i fun X => ?_ | refine AllY.i fun Y => ?_))
                    refine jn (⟨d, ⟨0, 0⟩, a, b⟩, sp, q3) ⟨⟨by dsimp only; omega, by dsimp only; omega, ha, hb, fun h => by dsimp only at h; omega, fun h => by dsimp only at h; omega, fun _ => rfl⟩, hsp⟩
          · rintro ⟨o, sp', q4⟩ ⟨ho, hsp'⟩
            dsimp only at ho hsp' ⊢
            have hm1 : m + 1 ≤ 1099511627776 := by omega
            (repeat (first | (refine AOps.gN ?_; first | (refine AOps.g_lit ?_; refine AOps.goL (opA o) ?_)) | refine WK ?_ | refine All.i fun X => ?_ | refine AllY.i fun Y => ?_))
            refine lp_next (⟨j + 1, Y, m + 1, M ++ [opA o], sp', q4⟩ : Sys2) ⟨hjc, ⟨ops ++ [o], by dsimp only; rw [hM, List.map_append]; rfl, fun o' ho' => ?_⟩, by dsimp only; rw [List.length_append, hm]; rfl, by dsimp only; omega, hsp'⟩ (by dsimp only; omega)
            rcases List.mem_append.1 ho' with h | h
            · exact hO o' h
            · rw [List.mem_singleton.1 h]; exact ho
      · have hjc : j = c := by rw [decide_eq_false_iff_not] at hd; omega
        subst hjc
        have fM : AV.frzs M = ops.map opA := by rw [hM]; exact Frzs.h
        (repeat first | refine AOps.nil ?_ | refine WF ?_)
        refine AWP.iceX A (ops.map opA) fM (.cons (.agg (.cons .same (.cons .same (.cons .same (.cons .same (.cons .same (.cons (.base .sl) (.cons .same .nil)))))))) .nil) ?_
        (repeat (first | refine WK ?_ | refine All.i fun X => ?_ | refine AllY.i fun Y => ?_))
        (refine AWP.ret ?_; (repeat (first | refine inB_r ?_ | refine andThen_r ?_)); refine retQ_r ?_)
        have hlen : ops.length ≤ 5 := by rw [hM, List.length_map] at hm; omega
        exact ⟨[sysA false ⟨sysName n, w1, w2, w3, w4, ops, sp⟩], [sysA false ⟨sysName n, w1, w2, w3, w4, ops, sp⟩], _, [(G, streamO q)], .cons (.cell rfl (by exact At.f) TAg.h TSize.h rfl rfl) rfl .nil, CVs_id _ _, by exact Sub.f, (⟨sysName n, w1, w2, w3, w4, ops, sp⟩, q), ⟨rfl, hL, hne, hlen, hO, hsp⟩, rfl, rfl⟩
end Go.Proofs.Ytcfleoaldoebhaa

namespace Go.Proofs.Ytcfleoaldoebhaa
set_option linter.unusedVariables false
/-- The systems that Systems returns: valid, with different names. -/
def SyssOK (ks : List Kind) (l : List Sys) : Prop := l.length ≤ 5 ∧ ∀ i (h : i < l.length), SysOK ks i l[i]
theorem systems_sp (ks : List Kind) (l : List Int) (hk : KindsOK ks) (hf : ∀ k ∈ ks, k.fields ≠ []) (h0 : ks ≠ []) : Spec Try.prog 32 [kindsA false false ks, intsA false l] [] fun r S' => ∃ b : List Sys, SyssOK ks b ∧ r = syssA true b ∧ S' = [] := by
  refine Spec.of (nt := 25) (res := [.tmp 4]) Try.func32 rfl (by kernel_rfl) rfl rfl rfl fun Sf => ?_
  have h6 := nextV_range l (n := 6) (by decide)
  obtain ⟨c, hc⟩ : ∃ c : Nat, nextV l 6 = c := ⟨(nextV l 6).toNat, by omega⟩
  obtain ⟨q0, hq0⟩ : ∃ q0, nextL l 6 = q0 := ⟨_, rfl⟩
  (repeat (first | (refine AOps.gN ?_; first | (refine AOps.g_callf ?_; first | refine AOps.o2 (h := (next_po G _ _ (by decide))) (k := ?_))) | refine WK ?_ | refine All.i fun G => ?_ | refine AllY.i fun Y => ?_))
  rw [hc, hq0]
  refine AWP.adopt (d := 6) 72 7 rfl fun K => ?_
  refine AWP.lp5 (fun (i K m : Nat) (M : List AV) (q : List Int) => ⟨[(0, kindsA false false ks), (5, .ptr G 0 0), (6, .sl K 0 m), (12, iA c), (13, iA i)], (K, .row 72 7 M) :: (G, streamO q) :: Sf⟩) (fun i _ m M _ => i ≤ c ∧ m = i ∧ ∃ b : List Sys, M = b.map (sysA false) ∧ b.length = i ∧ ∀ j (h : j < b.length), SysOK ks j b[j]) (fun i _ _ _ _ => c - i) 0 K 0 [] q0 ⟨Nat.zero_le _, rfl, [], rfl, rfl, fun j h => absurd h (by simp)⟩ ?_
  rintro i K m M q ⟨hi, hm, b, hM, hb, hO⟩
  (repeat (first | refine WK ?_ | refine All.i fun X => ?_ | refine AllY.i fun Y => ?_))
  refine AWP.cond rfl (fun hd => ?_) (fun hd => ?_)
  · have h : i < c := by rw [decide_eq_true_eq] at hd; omega
    have hs := system_sp G ks q i hk hf h0 (by omega)
    have hm1 : m + 1 ≤ 1099511627776 := by omega
    have hml : m = M.length := by rw [hM, List.length_map, hb, hm]
    (repeat refine WF ?_); refine AWP.region ?_; (repeat (first | refine WO ?_ | refine All.i fun X => ?_ | refine AllY.i fun Y => ?_)); refine AOps.nil ?_; (repeat refine WN ?_)
    refine AWP.region ?_
    refine AOps.go ?_
    refine AOps.go ?_
    refine AOps.go ?_
    refine AOps.go ?_
    refine AOps.eo3 (h := hs) fun s hsO => ?_
    (repeat (first | (refine AOps.gN ?_; first | (refine AOps.g_lit ?_; refine AOps.goL (sysA false s.1) ?_)) | refine WK ?_ | refine All.i fun X => ?_ | refine AllY.i fun Y => ?_))
    refine lp_next5 (i + 1) Y (m + 1) (M ++ [sysA false s.1]) s.2 ⟨h, by rw [hm], b ++ [s.1], by rw [hM, List.map_append]; rfl, by rw [List.length_append, hb]; rfl, fun j hj => ?_⟩
    rw [List.length_append] at hj
    by_cases hjb : j < b.length
    · rw [List.getElem_append_left hjb]; exact hO j hjb
    · have : j = b.length := by simp at hj; omega
      subst this
      rw [List.getElem_append_right (Nat.le_refl _)]
      simp only [Nat.sub_self, List.getElem_cons_zero]
      rw [hb]; exact hsO
  · have h : i = c := by rw [decide_eq_false_iff_not] at hd; omega
    subst h
    (repeat (first | refine WK ?_ | refine All.i fun X => ?_ | refine AllY.i fun Y => ?_))
    (refine AWP.ret ?_; (repeat (first | refine inB_r ?_ | refine andThen_r ?_)); refine retQ_r ?_)
    subst hM
    have hml : m = (b.map (sysA false)).length := by rw [List.length_map, hb, hm]
    exact ⟨[.sl K 0 m], [syssA true b], _, [], .cons (.tmp rfl) rfl .nil, .cons (.cell (.sl (p := 0) .here hml)) .nil, by exact Sub.f, b, ⟨by omega, hO⟩, rfl, rfl⟩
end Go.Proofs.Ytcfleoaldoebhaa

namespace Go.Proofs.Ytcfleoaldoebhaa
set_option linter.unusedSimpArgs false
set_option linter.unusedVariables false

def lowc (c : UInt8) : Bool := decide (97 ≤ c) && decide (c ≤ 122)
def digc (c : UInt8) : Bool := decide (48 ≤ c) && decide (c ≤ 57)
def chOk (l : List UInt8) (j : Nat) : Bool := lowc (l.getD j 0) || (decide (0 < j) && digc (l.getD j 0))
def nameOk (l : List UInt8) : Bool := decide (0 < l.length) && decide (l.length ≤ 16) && (List.range l.length).all (chOk l)
def fieldErr (f : Field) : Int := if nameOk f.name && decide (1 ≤ f.bits) && decide (f.bits ≤ 32) && decide (-4294967296 ≤ f.low) && decide (f.low ≤ 4294967296) then 0 else 3
def fieldsErr : List Field → List Field → Int
  | _, [] => 0
  | pre, f :: fs => if fieldErr f ≠ 0 then fieldErr f else if pre.any (fun o => o.name == f.name) then 5 else fieldsErr (pre ++ [f]) fs
def oneErr (k : Kind) : Int := if nameOk k.name then (if 8 < k.fields.length then 2 else fieldsErr [] k.fields) else 3

theorem chOk_iff (l : List UInt8) (k : Nat) (hk : k < l.length) : chOk l k = true ↔ ((97 : Int) ≤ ((⟨l.toArray⟩ : ByteArray)[k]'hk).toNat ∧ (((⟨l.toArray⟩ : ByteArray)[k]'hk).toNat : Int) ≤ 122) ∨ (0 < k ∧ (48 : Int) ≤ ((⟨l.toArray⟩ : ByteArray)[k]'hk).toNat ∧ (((⟨l.toArray⟩ : ByteArray)[k]'hk).toNat : Int) ≤ 57) := by
  have e : (⟨l.toArray⟩ : ByteArray)[k]'hk = l[k] := rfl
  rw [e]
  simp only [chOk, lowc, digc, List.getD_eq_getElem?_getD, List.getElem?_eq_getElem hk, Option.getD_some, Bool.or_eq_true, Bool.and_eq_true, decide_eq_true_eq, UInt8.le_iff_toNat_le]
  have h1 : (97 : UInt8).toNat = 97 := rfl
  have h2 : (122 : UInt8).toNat = 122 := rfl
  have h3 : (48 : UInt8).toNat = 48 := rfl
  have h4 : (57 : UInt8).toNat = 57 := rfl
  rw [h1, h2, h3, h4]
  omega
def findKind (l : List Kind) (name : List UInt8) : Int :=
  match l.findIdx? (fun k => k.name == name) with
  | some i => i
  | none => -1
def kindsErr : List Kind → List Kind → Int
  | _, [] => 0
  | pre, k :: ks => if oneErr k ≠ 0 then oneErr k else if pre.any (fun o => o.name == k.name) then 5 else kindsErr (pre ++ [k]) ks
def checkErr (l : List Kind) : Int := if 16 < l.length then 2 else kindsErr [] l
def highOf (f : Field) : Int := if fieldErr f = 0 then f.low + (2 ^ f.bits.toNat - 1) else 0
def nearOf (f : Field) (v : Int) : Int := if fieldErr f = 0 then max f.low (min v (highOf f)) else 0
def fitOf (k : Kind) (vals : List Int) : List Int × Int :=
  if oneErr k ≠ 0 then ([], oneErr k) else if vals.length ≠ k.fields.length then ([], 1) else (List.zipWith nearOf k.fields vals, 0)
def holdsOf (k : Kind) (vals : List Int) : Bool := decide ((fitOf k vals).2 = 0) && decide ((fitOf k vals).1 = vals)

theorem findKind_none {l : List Kind} {name : List UInt8} (h : ∀ j (hj : j < l.length), l[j].name ≠ name) : findKind l name = -1 := by
  have : l.findIdx? (fun k => k.name == name) = none := by
    rw [List.findIdx?_eq_none_iff]
    intro x hx
    obtain ⟨j, hj, rfl⟩ := List.getElem_of_mem hx
    simpa using h j hj
  simp [findKind, this]
theorem findKind_some {l : List Kind} {name : List UInt8} {i : Nat} (hi : i < l.length) (e : l[i].name = name) (h : ∀ j (hj : j < i), (l[j]'(by omega)).name ≠ name) : findKind l name = i := by
  have : l.findIdx? (fun k => k.name == name) = some i := by
    rw [List.findIdx?_eq_some_iff_getElem]
    refine ⟨hi, by simpa using e, fun j hj => ?_⟩
    simpa using h j hj
  simp [findKind, this]
theorem kindsErr_bad {pre : List Kind} {k : Kind} {ks : List Kind} (h : oneErr k ≠ 0) : kindsErr pre (k :: ks) = oneErr k := by
  simp [kindsErr, h]
theorem kindsErr_twice {pre : List Kind} {k : Kind} {ks : List Kind} (h : oneErr k = 0) (hf : 0 ≤ findKind pre k.name) : kindsErr pre (k :: ks) = 5 := by
  have : pre.any (fun o => o.name == k.name) = true := by
    rcases hc : pre.any (fun o => o.name == k.name) with _ | _
    · exfalso
      rw [List.any_eq_false] at hc
      rw [findKind_none (fun j hj => by simpa using hc _ (List.getElem_mem hj))] at hf
      omega
    · rfl
  simp [kindsErr, h, this]
theorem kindsErr_next {pre : List Kind} {k : Kind} {ks : List Kind} (h : oneErr k = 0) (hf : findKind pre k.name < 0) : kindsErr pre (k :: ks) = kindsErr (pre ++ [k]) ks := by
  have : pre.any (fun o => o.name == k.name) = false := by
    rcases hc : pre.any (fun o => o.name == k.name) with _ | _
    · rfl
    · exfalso
      rw [List.any_eq_true] at hc
      obtain ⟨x, hx, e⟩ := hc
      unfold findKind at hf
      split at hf
      · omega
      · rename_i hn
        rw [List.findIdx?_eq_none_iff] at hn
        exact absurd e (by simpa using hn x hx)
  simp [kindsErr, h, this]
theorem kindsErr_at {l : List Kind} {i : Nat} (hi : i < l.length) : kindsErr (l.take i) (l.drop i) = kindsErr (l.take i) (l[i] :: l.drop (i + 1)) := by
  rw [List.drop_eq_getElem_cons hi]
theorem kindsErr_end {l : List Kind} {i : Nat} (hi : l.length ≤ i) : kindsErr (l.take i) (l.drop i) = 0 := by
  rw [List.drop_of_length_le hi]; rfl
theorem fieldErr_ok (f : Field) (h : nameOk f.name = true) (hb : 1 ≤ f.bits ∧ f.bits ≤ 32 ∧ -4294967296 ≤ f.low ∧ f.low ≤ 4294967296) : fieldErr f = 0 := by
  simp [fieldErr, h, hb]
theorem fieldErr_no (f : Field) (h : nameOk f.name = true → ¬ (1 ≤ f.bits ∧ f.bits ≤ 32 ∧ -4294967296 ≤ f.low ∧ f.low ≤ 4294967296)) : fieldErr f = 3 := by
  unfold fieldErr
  rw [if_neg]
  simp only [Bool.and_eq_true, decide_eq_true_eq]
  intro hc
  exact h hc.1.1.1.1 ⟨hc.1.1.1.2, hc.1.1.2, hc.1.2, hc.2⟩
theorem fieldErr_eq_zero (f : Field) : fieldErr f = 0 ↔ nameOk f.name = true ∧ 1 ≤ f.bits ∧ f.bits ≤ 32 ∧ -4294967296 ≤ f.low ∧ f.low ≤ 4294967296 := by
  constructor
  · intro h
    unfold fieldErr at h
    split at h
    · rename_i hc
      simpa [and_assoc] using hc
    · simp at h
  · rintro ⟨h, hb⟩
    exact fieldErr_ok f h hb
theorem fieldErr_cases (f : Field) : fieldErr f = 0 ∨ fieldErr f = 3 := by
  unfold fieldErr
  split <;> simp
theorem fieldsErr_bad {pre : List Field} {f : Field} {fs : List Field} (h : fieldErr f ≠ 0) : fieldsErr pre (f :: fs) = fieldErr f := by
  simp [fieldsErr, h]
theorem fieldsErr_twice {pre : List Field} {f : Field} {fs : List Field} (h : fieldErr f = 0) {j : Nat} (hj : j < pre.length) (e : pre[j].name = f.name) : fieldsErr pre (f :: fs) = 5 := by
  have : pre.any (fun o => o.name == f.name) = true := by
    rw [List.any_eq_true]
    exact ⟨pre[j], List.getElem_mem hj, by simp [e]⟩
  simp [fieldsErr, h, this]
theorem fieldsErr_next {pre : List Field} {f : Field} {fs : List Field} (h : fieldErr f = 0) (e : ∀ j (hj : j < pre.length), pre[j].name ≠ f.name) : fieldsErr pre (f :: fs) = fieldsErr (pre ++ [f]) fs := by
  have : pre.any (fun o => o.name == f.name) = false := by
    rw [List.any_eq_false]
    intro x hx
    obtain ⟨j, hj, rfl⟩ := List.getElem_of_mem hx
    simpa using e j hj
  simp [fieldsErr, h, this]
theorem fieldsErr_at {l : List Field} {i : Nat} (hi : i < l.length) : fieldsErr (l.take i) (l.drop i) = fieldsErr (l.take i) (l[i] :: l.drop (i + 1)) := by
  rw [List.drop_eq_getElem_cons hi]
theorem fieldsErr_end {l : List Field} {i : Nat} (hi : l.length ≤ i) : fieldsErr (l.take i) (l.drop i) = 0 := by
  rw [List.drop_of_length_le hi]; rfl
theorem nameOk_no (l : List UInt8) (j : Nat) (hj : j < l.length) (h : chOk l j = false) : nameOk l = false := by
  have : (List.range l.length).all (chOk l) = false := by
    rw [List.all_eq_false]
    exact ⟨j, List.mem_range.2 hj, by simp [h]⟩
  simp [nameOk, this]
theorem nameOk_yes (l : List UInt8) (h0 : 0 < l.length) (h1 : l.length ≤ 16) (h : ∀ j, j < l.length → chOk l j = true) : nameOk l = true := by
  have : (List.range l.length).all (chOk l) = true := by
    rw [List.all_eq_true]
    intro x hx
    exact h x (List.mem_range.1 hx)
  simp [nameOk, this, h0, h1]
theorem nameOk_long (l : List UInt8) (h : l.length = 0 ∨ 16 < l.length) : nameOk l = false := by
  rcases h with h | h
  · simp [nameOk, h]
  · simp [nameOk, show ¬ l.length ≤ 16 from by omega]

theorem pow_bits {b : Int} (h1 : 1 ≤ b) (h2 : b ≤ 32) : (2 : Int) ≤ 2 ^ b.toNat ∧ (2 : Int) ^ b.toNat ≤ 4294967296 := by
  obtain ⟨n, rfl⟩ : ∃ n : Nat, b = n := ⟨b.toNat, by omega⟩
  rw [Int.toNat_natCast]
  have h : n = 1 ∨ n = 2 ∨ n = 3 ∨ n = 4 ∨ n = 5 ∨ n = 6 ∨ n = 7 ∨ n = 8 ∨ n = 9 ∨ n = 10 ∨ n = 11 ∨ n = 12 ∨ n = 13 ∨ n = 14 ∨ n = 15 ∨ n = 16 ∨ n = 17 ∨ n = 18 ∨ n = 19 ∨ n = 20 ∨ n = 21 ∨ n = 22 ∨ n = 23 ∨ n = 24 ∨ n = 25 ∨ n = 26 ∨ n = 27 ∨ n = 28 ∨ n = 29 ∨ n = 30 ∨ n = 31 ∨ n = 32 := by omega
  rcases h with rfl | rfl | rfl | rfl | rfl | rfl | rfl | rfl | rfl | rfl | rfl | rfl | rfl | rfl | rfl | rfl | rfl | rfl | rfl | rfl | rfl | rfl | rfl | rfl | rfl | rfl | rfl | rfl | rfl | rfl | rfl | rfl <;> decide
theorem highOf_eq {f : Field} (h : fieldErr f = 0) : highOf f = f.low + (2 ^ f.bits.toNat - 1) := by simp [highOf, h]
theorem highOf_bd {f : Field} (h : fieldErr f = 0) : f.low < highOf f ∧ highOf f ≤ 8589934592 := by
  have hb := (fieldErr_eq_zero f).1 h
  have := pow_bits hb.2.1 hb.2.2.1
  rw [highOf_eq h]
  omega
theorem highOf_range (f : Field) : -4294967296 ≤ highOf f ∧ highOf f ≤ 8589934592 := by
  rcases fieldErr_cases f with h | h
  · have := highOf_bd h
    have hb := (fieldErr_eq_zero f).1 h
    omega
  · simp [highOf, h]
theorem nearOf_range (f : Field) (v : Int) : -4294967296 ≤ nearOf f v ∧ nearOf f v ≤ 8589934592 := by
  rcases fieldErr_cases f with h | h
  · have := highOf_bd h
    have hb := (fieldErr_eq_zero f).1 h
    simp only [nearOf, h, if_true]
    omega
  · simp [nearOf, h]
theorem fieldsErr_zero {pre l : List Field} (h : fieldsErr pre l = 0) : ∀ f ∈ l, fieldErr f = 0 := by
  induction l generalizing pre with
  | nil => intro f hf; cases hf
  | cons x l ih =>
    intro f hf
    simp only [fieldsErr] at h
    split at h
    · rename_i hx; exact absurd h hx
    · rename_i hx
      split at h
      · simp at h
      · rcases List.mem_cons.1 hf with rfl | hf
        · simpa using hx
        · exact ih h f hf
theorem oneErr_zero {k : Kind} (h : oneErr k = 0) : nameOk k.name = true ∧ k.fields.length ≤ 8 ∧ ∀ f ∈ k.fields, fieldErr f = 0 := by
  unfold oneErr at h
  split at h
  · rename_i h1
    split at h
    · simp at h
    · rename_i h2
      exact ⟨h1, by omega, fieldsErr_zero h⟩
  · simp at h
/-- What a made row holds when n places are filled, and one more. -/
theorem fill_set {l : List Int} {m n : Nat} (hm : l.length = m) (hn : n < m) : (l.take n ++ List.replicate (m - n) 0).set n (l[n]'(by omega)) = l.take (n + 1) ++ List.replicate (m - (n + 1)) 0 := by
  rw [show m - n = (m - (n + 1)) + 1 from by omega, List.replicate_succ, List.set_append_right _ _ (by simp; omega)]
  have e : n - (l.take n).length = 0 := by simp; omega
  rw [e, List.take_succ_eq_append_getElem (by omega), List.append_assoc]
  rfl
theorem fill_end {l : List Int} {m : Nat} (hm : l.length = m) : l.take m ++ List.replicate (m - m) 0 = l := by
  rw [List.take_of_length_le (by omega)]; simp
theorem fill_len {l : List Int} {m n : Nat} (hm : l.length = m) (hn : n ≤ m) : (l.take n ++ List.replicate (m - n) 0).length = m := by
  simp; omega
end Go.Proofs.Ytcfleoaldoebhaa

namespace Go.Proofs.Ytcfleoaldoebhaa
set_option linter.unusedVariables false
def baseKind : Kind := ⟨[108, 105, 102, 101], [⟨[120], 8, 0⟩]⟩
def baseWd : Wd := ⟨[baseKind], [0], [⟨⟨0, 0⟩, [⟨0, [9]⟩]⟩]⟩
theorem base_ps : PS Try.prog 18 [] (wdA false baseWd) := by
  refine Spec.of (nt := 14) (res := [.cell 0 39]) Try.func18 rfl (by kernel_rfl) rfl rfl rfl fun Sf => ?_
  (repeat (first | refine WK ?_ | refine All.i fun X => ?_ | refine AllY.i fun Y => ?_))
  (refine AWP.ret ?_; (repeat (first | refine inB_r ?_ | refine andThen_r ?_)); refine retQ_r ?_)
  refine Ends.id (rs := [wdA false baseWd]) rfl (.cons (.cell (p := 0) rfl .here TAg.h TSize.h rfl rfl) rfl .nil)
theorem equalI_ps (a b : List Int) (hl : a.length ≤ 1099511627776) : PS Try.prog 26 [intsA false a, intsA false b] (bA (decide (a = b))) := by
  refine Spec.of (nt := 26) (res := [.tmp 4]) Try.func26 rfl (by kernel_rfl) rfl rfl rfl fun Sf => ?_
  (repeat (first | refine WK ?_ | refine All.i fun X => ?_ | refine AllY.i fun Y => ?_))
  refine AWP.cond rfl (fun hb => ?_) (fun hb => ?_)
  · have hb : a.length ≠ b.length := by simp at hb; omega
    (repeat (first | refine WK ?_ | refine All.i fun X => ?_ | refine AllY.i fun Y => ?_))
    (refine AWP.ret ?_; (repeat (first | refine inB_r ?_ | refine andThen_r ?_)); refine retQ_r ?_); refine Ends.ps ?_
    rw [decide_eq_false fun e => hb (by rw [e])]
  · have hb : a.length = b.length := by simp at hb; omega
    (repeat (first | refine WK ?_ | refine All.i fun X => ?_ | refine AllY.i fun Y => ?_))
    refine AWP.lp (fun i : Nat => ⟨[(0, intsA false a), (1, intsA false b), (12, iA (a.map iA).length), (13, iA i)], Sf⟩) (fun i => i ≤ a.length ∧ ∀ j (h : j < a.length), j < i → a[j] = b[j]'(by omega)) (fun i => a.length - i) 0 ⟨Nat.zero_le _, fun j h hj => absurd hj (by omega)⟩ ?_
    rintro i ⟨hi, he⟩
    (repeat (first | refine WK ?_ | refine All.i fun X => ?_ | refine AllY.i fun Y => ?_))
    refine AWP.cond rfl (fun hc => ?_) (fun hc => ?_)
    · have h : i < a.length := by simpa using hc
      have h' : i < b.length := by omega
      (repeat (first | refine WK ?_ | refine All.i fun X => ?_ | refine AllY.i fun Y => ?_))
      (repeat refine WF ?_); refine AWP.region_run (by kernel_rfl) (by kernel_rfl) ?_; (repeat (first | refine RK ?_ | refine RGo.nil (by kernel_rfl) ?_))
      (repeat (first | refine WK ?_ | refine All.i fun X => ?_ | refine AllY.i fun Y => ?_))
      refine AWP.cond rfl (fun hd => ?_) (fun hd => ?_)
      · have hd : a[i] ≠ b[i] := by simpa using hd
        (repeat (first | refine WK ?_ | refine All.i fun X => ?_ | refine AllY.i fun Y => ?_))
        (refine AWP.ret ?_; (repeat (first | refine inB_r ?_ | refine andThen_r ?_)); refine retQ_r ?_); refine Ends.ps ?_
        rw [decide_eq_false fun e => hd (by subst e; rfl)]
      · have hd : a[i] = b[i] := by simpa using hd
        (repeat (first | refine WK ?_ | refine All.i fun X => ?_ | refine AllY.i fun Y => ?_))
        refine lp_next (i + 1) ⟨h, fun j h1 h2 => ?_⟩
        by_cases e : j = i
        · subst e; exact hd
        · exact he j h1 (by omega)
    · have h : ¬ i < a.length := by simpa using hc
      (repeat (first | refine WK ?_ | refine All.i fun X => ?_ | refine AllY.i fun Y => ?_))
      (refine AWP.ret ?_; (repeat (first | refine inB_r ?_ | refine andThen_r ?_)); refine retQ_r ?_); refine Ends.ps ?_
      rw [decide_eq_true (List.ext_getElem hb fun j h1 h2 => he j h1 (by omega))]
theorem kindsE_ps (l : List Int) : PS Try.prog 21 [intsA false l] (kindsA false false (genKinds l).1) := by
  refine Spec.of (nt := 7) (res := [.tmp 2]) Try.func21 rfl (by kernel_rfl) rfl rfl rfl fun Sf => ?_
  (repeat (first | (refine AOps.gN ?_; first | (refine AOps.g_callf ?_; first | refine AOps.o1 (h := (kinds_po G l)) (k := ?_))) | refine WK ?_ | refine All.i fun G => ?_ | refine AllY.i fun Y => ?_))
  (refine AWP.ret ?_; (repeat (first | refine inB_r ?_ | refine andThen_r ?_)); refine retQ_r ?_); refine Ends.ps ?_
  rfl
end Go.Proofs.Ytcfleoaldoebhaa

namespace Go.Proofs.Ytcfleoaldoebhaa
set_option linter.unusedVariables false
open Go.RowKit
def baseM (w : World) : Mem := ⟨fun _ => none, fun _ => False, w, fun b => b < w.heap.size⟩
theorem baseM_good (w : World) : Good (baseM w) (baseM w) 0 [] [] :=
  ⟨fun z hz => (by cases hz), .nil, fun b hb => (by cases hb), fun b h => h, .nil, fun x hx => (by cases hx), fun x h => h.elim, .refl _, rfl, rfl, rfl, Nat.le_refl _⟩
theorem Good.bel {w : World} {m' : Mem} {N : Nat} {Z : Zs} {br : List Nat} (G : Good (baseM w) m' N Z br) : Below w.heap.size w m'.w :=
  ⟨G.os, G.tape, G.output, G.size, fun k hk => (G.le.F k hk).2⟩
theorem PS.calls_bool {P : Program} {f : FuncId} {args : List AV} {b : Bool} (h : PS P f args (bA b)) {w : World} {vals : Array Value} (hv : VTs (baseM w) args vals.toList []) :
    Calls P f vals w fun e w' => e = .returned (.bool b) ∧ Below w.heap.size w w' :=
  (h.run [] (baseM w) 0 [] vals rfl (baseM_good w) hv).mono fun e w' ⟨v, r, S', m', N', Z', br, h1, h2, h3, G, h4, h5, h6⟩ => by
    subst h1 h2 h5
    refine ⟨?_, G.bel⟩
    obtain ⟨⟨h7, _⟩, _⟩ := h4
    injection h7 with h7
    rw [h7]
theorem cells_vcs {α : Type} {m : Mem} {C : List Value → α → Prop} {sz : Nat} {f : α → AV} (hC : ∀ c x, C c x → VC m (f x) c []) : ∀ {l : List α} {xs : List Value}, Cells C sz xs l → VCs m (l.map f) xs []
  | [], _, h => ⟨h, rfl⟩
  | x :: l, _, ⟨c, ys, h1, h2, h3, h4⟩ => ⟨c, ys, [], [], h1, rfl, hC c x h3, cells_vcs hC h4⟩
theorem cell_block {w : World} {b o : Nat} {u : Value} (h : w.cell? ⟨b, o, none⟩ = some u) : ∃ arr t r, w.heap[b]? = some (.cells arr t r) ∧ arr[o]? = some u := by
  unfold World.cell? at h
  cases hb : w.heap[b]? with
  | none => simp only [hb] at h; cases h
  | some blk =>
    cases blk with
    | cells c t r => simp only [hb] at h; exact ⟨c, t, r, rfl, by simpa using h⟩
    | _ => simp only [hb] at h; cases h
theorem sl_vc {α : Type} {w : World} {C : World → Reg → List Value → α → Prop} {sz : Nat} {f : α → AV} {t : TypeId} {v : Value} {l : List α} (hsz : 0 < sz) (hC : ∀ c x, C w (Lt w) c x → VC (baseM w) (f x) c []) (hw : ∀ x, (f x).width = sz) (h : Sl w (Lt w) sz C v l) : VC (baseM w) (.lst false t sz (l.map f)) [v] [] := by
  obtain ⟨xs, ⟨h1, A, cap, rfl, hn, hr⟩, hc⟩ := h
  refine ⟨rfl, A, cap, by simp, by simpa using hn, fun e he => by obtain ⟨x, _, rfl⟩ := List.mem_map.1 he; exact hw x, fun h0 => ?_⟩
  have h0 : 0 < l.length := by simpa using h0
  obtain ⟨b, off, rfl, hb, hcell⟩ := hr h0
  have hx : 0 < xs.length := by rw [h1]; exact Nat.mul_pos h0 hsz
  obtain ⟨arr, t', r, h2, h3⟩ := cell_block (hcell 0 xs[0] (by simp))
  refine ⟨b, off, arr, t', r, rfl, hb, h2, ?_⟩
  have e : (arr.toList.drop off).take ((l.map f).length * sz) = xs := by
    apply List.ext_getElem?
    intro j
    rw [List.getElem?_take]
    split
    · rename_i hj
      have hj : j < xs.length := by rw [h1]; simpa using hj
      obtain ⟨arr2, t2, r2, h4, h5⟩ := cell_block (hcell j xs[j] (by simp))
      rw [h2] at h4
      injection h4 with h4
      injection h4 with h4
      subst h4
      rw [List.getElem?_drop, List.getElem?_eq_getElem hj]
      simpa using h5
    · rename_i hj
      rw [List.getElem?_eq_none]
      rw [h1]; simpa using hj
  rw [e]
  exact cells_vcs hC hc
theorem ints_vc {w : World} {v : Value} {l : List Int} (h : Ints w (Lt w) v l) : VC (baseM w) (intsA false l) [v] [] :=
  sl_vc (f := iA) (by decide) (fun c x hc => ⟨⟨hc, rfl⟩, rfl⟩) (fun _ => rfl) h
theorem vts_nil {m : Mem} : VTs m [] [] [] := ⟨rfl, rfl⟩
theorem vts_int {m : Mem} {l : List AV} {us : List Value} {x : Int} (k : VTs m l us []) : VTs m (iA x :: l) (.int .i64 x :: us) [] := (VTs_cons rfl).2 ⟨_, _, [], [], rfl, rfl, ⟨⟨rfl, rfl⟩, rfl⟩, k⟩
theorem vts_ints {w : World} {v : Value} {z : List Int} {l : List AV} {us : List Value} (h : Ints w (Lt w) v z) (k : VTs (baseM w) l us []) : VTs (baseM w) (intsA false z :: l) (v :: us) [] := (VTs_cons rfl).2 ⟨_, _, [], [], rfl, rfl, ints_vc h, k⟩
end Go.Proofs.Ytcfleoaldoebhaa
