/-
  Part 5 of the texts under the law MigrateNames: the layer of abstract values, walks and plain laws. Conditions: those that each theorem names.
-/
import Derived.WalkKit
import Derived.Lib.Hide
import Derived.Deep.OwnRows
import Derived.Deep.Draws
import Derived.Test.YtfkppbkipbbmaaaChecked
import Derived.ProofKit
import Derived.OpenShut
import Derived.ShutString
import Derived.ChangeOld
import Derived.Below
import Derived.SizedLaws
import Derived.Deep.Slices
import Derived.Deep.Fields
import Derived.ChangeSame
import Derived.Test.YtfkppbkipbbmaaaProg
import Derived.Test.YtfkppbkipbbmaaaMigrateNamesP4
namespace Go.Proofs.Ytfkppbkipbbmaaa
set_option linter.unusedSimpArgs false
set_option linter.unusedVariables false

structure Field where
  name : List UInt8
  bits : Int
  low : Int
structure Kind where
  name : List UInt8
  fields : List Field
structure Ent where
  n : Int
  gen : Int
structure Comp where
  kind : Int
  vals : List Int
structure Item where
  ent : Ent
  comps : List Comp
structure Wd where
  kinds : List Kind
  gens : List Int
  items : List Item
structure Evt where
  sys : Int
  ent : Ent
  val : Int
structure Ref where
  kind : Int
  field : Int
structure Arg where
  has : Bool
  n : Int
  ref : Ref
structure Op where
  act : Int
  to : Ref
  a : Arg
  b : Arg
structure Sys where
  name : List UInt8
  wth : List Int
  wout : List Int
  reads : List Int
  writes : List Int
  ops : List Op
  spawn : List Comp


instance : DecidableEq Field := fun a b => decidable_of_iff (a.name = b.name ∧ a.bits = b.bits ∧ a.low = b.low) (by cases a; cases b; simp)
instance : Inhabited Field := ⟨⟨default, default, default⟩⟩
instance : DecidableEq Kind := fun a b => decidable_of_iff (a.name = b.name ∧ a.fields = b.fields) (by cases a; cases b; simp)
instance : Inhabited Kind := ⟨⟨default, default⟩⟩
instance : DecidableEq Ent := fun a b => decidable_of_iff (a.n = b.n ∧ a.gen = b.gen) (by cases a; cases b; simp)
instance : Inhabited Ent := ⟨⟨default, default⟩⟩
instance : DecidableEq Comp := fun a b => decidable_of_iff (a.kind = b.kind ∧ a.vals = b.vals) (by cases a; cases b; simp)
instance : Inhabited Comp := ⟨⟨default, default⟩⟩
instance : DecidableEq Item := fun a b => decidable_of_iff (a.ent = b.ent ∧ a.comps = b.comps) (by cases a; cases b; simp)
instance : Inhabited Item := ⟨⟨default, default⟩⟩
instance : DecidableEq Wd := fun a b => decidable_of_iff (a.kinds = b.kinds ∧ a.gens = b.gens ∧ a.items = b.items) (by cases a; cases b; simp)
instance : Inhabited Wd := ⟨⟨default, default, default⟩⟩
instance : DecidableEq Evt := fun a b => decidable_of_iff (a.sys = b.sys ∧ a.ent = b.ent ∧ a.val = b.val) (by cases a; cases b; simp)
instance : Inhabited Evt := ⟨⟨default, default, default⟩⟩
instance : DecidableEq Ref := fun a b => decidable_of_iff (a.kind = b.kind ∧ a.field = b.field) (by cases a; cases b; simp)
instance : Inhabited Ref := ⟨⟨default, default⟩⟩
instance : DecidableEq Arg := fun a b => decidable_of_iff (a.has = b.has ∧ a.n = b.n ∧ a.ref = b.ref) (by cases a; cases b; simp)
instance : Inhabited Arg := ⟨⟨default, default, default⟩⟩
instance : DecidableEq Op := fun a b => decidable_of_iff (a.act = b.act ∧ a.to = b.to ∧ a.a = b.a ∧ a.b = b.b) (by cases a; cases b; simp)
instance : Inhabited Op := ⟨⟨default, default, default, default⟩⟩
instance : DecidableEq Sys := fun a b => decidable_of_iff (a.name = b.name ∧ a.wth = b.wth ∧ a.wout = b.wout ∧ a.reads = b.reads ∧ a.writes = b.writes ∧ a.ops = b.ops ∧ a.spawn = b.spawn) (by cases a; cases b; simp)
instance : Inhabited Sys := ⟨⟨default, default, default, default, default, default, default⟩⟩

/-- A number of Go's type int. -/
def I64 (x : Int) : Prop := -9223372036854775808 ≤ x ∧ x ≤ 9223372036854775807
end Go.Proofs.Ytfkppbkipbbmaaa

namespace Go.Proofs.Ytfkppbkipbbmaaa
set_option linter.unusedSimpArgs false
set_option linter.unusedVariables false
open Go.RowKit

abbrev Reg := Nat → Prop
/-- The blocks that the world holds. -/
def Lt (w : World) : Reg := fun b => b < w.heap.size
/-- The blocks from n on. -/
def Fr (n : Nat) (w : World) : Reg := fun b => n ≤ b ∧ b < w.heap.size
def Same (S : Reg) (w w' : World) : Prop := ∀ b, S b → w'.heap[b]? = w.heap[b]?

section
variable {w w' w'' : World} {S T : Reg}
theorem Same.refl (S : Reg) (w : World) : Same S w w := fun _ _ => rfl
theorem Same.trans (h : Same S w w') (k : Same S w' w'') : Same S w w'' := fun b hb => (k b hb).trans (h b hb)
theorem Same.mono (h : Same S w w') (hT : ∀ b, T b → S b) : Same T w w' := fun b hb => h b (hT b hb)
theorem Same.cell (h : Same S w w') {b : Nat} (hb : S b) (o : Nat) : w'.cell? ⟨b, o, none⟩ = w.cell? ⟨b, o, none⟩ := World.cell?_of_block (w := w) (h b hb)
theorem Same.below {B : Nat} (h : Below B w w') (hB : ∀ b, S b → b < B) : Same S w w' := fun b hb => h.block b (hB b hb)
theorem Same.lt (h : Below w.heap.size w w') : Same (Lt w) w w' := fun b hb => h.block b hb
theorem Same.grown {row : Option Nat} (h : w.grownBy w' row) (hS : ∀ b, S b → b < w.heap.size ∧ some b ≠ row) : Same S w w' := fun b hb => h.block b (hS b hb).1 (hS b hb).2
theorem Same.alloc (w : World) (o : Obj) (hS : ∀ b, S b → b < w.heap.size) : Same S w (w.alloc o) := fun b hb => Below.heap_alloc w o b (hS b hb)
theorem Same.setCell (w : World) {p : Addr} (u : Value) (hS : ∀ b, S b → b ≠ p.block) : Same S w (w.setCell p u) := fun b hb => Below.heap_setCell w p u b (hS b hb)

/-- What a step 'Below' gives the walk as rules: old cells, old marks. -/
theorem lvl {B : Nat} (hb : Below B w w') : (∀ b o, b < B → w'.cell? ⟨b, o, none⟩ = w.cell? ⟨b, o, none⟩) ∧ (∀ b o, b < B → w'.frozen? ⟨b, o, none⟩ = w.frozen? ⟨b, o, none⟩) :=
  ⟨fun b o h => hb.cell (p := ⟨b, o, none⟩) h, fun b o h => hb.frozen (p := ⟨b, o, none⟩) h⟩
/-- The same for every block of the first world. -/
theorem olderB {a c : World} (h : Below a.heap.size a c) : ∀ b, b < a.heap.size → b < c.heap.size ∧ b ≤ c.heap.size ∧ b < c.heap.size + 1 ∧ b < c.heap.size + 2 ∧ b < c.heap.size + 3 ∧ b < c.heap.size + 4 ∧ b ≠ c.heap.size ∧ c.heap.size ≠ b ∧ b ≠ c.heap.size + 1 ∧ c.heap.size + 1 ≠ b ∧ b ≠ c.heap.size + 2 ∧ c.heap.size + 2 ≠ b ∧ b ≠ c.heap.size + 3 ∧ c.heap.size + 3 ≠ b :=
  fun b hb => by have := h.size; omega
theorem belN {n : Nat} {a c : World} (h : Below n a c) (k : Nat) : Below n a (c.drewN k) := ⟨h.os, h.tape, h.output, h.size, h.block⟩
theorem bel {n m : Nat} {a b c : World} (h : Below n a b) (k : Below m b c) (hm : n ≤ m) : Below n a c := h.trans (k.mono hm)
theorem bel0 {n : Nat} {a b c : World} (h : Below n a b) (k : Below b.heap.size b c) (hm : n ≤ b.heap.size) : Below n a c := h.trans (k.mono hm)
theorem bel1 {n : Nat} {a b c : World} {o : Obj} (h : Below n a b) (k : Below (b.alloc o).heap.size (b.alloc o) c) (hm : n ≤ b.heap.size) : Below n a c := (h.alloc hm o).trans (k.mono (by simp; omega))
theorem bel2 {n : Nat} {a b c : World} {o o' : Obj} (h : Below n a b) (k : Below ((b.alloc o).alloc o').heap.size ((b.alloc o).alloc o') c) (hm : n ≤ b.heap.size) : Below n a c := ((h.alloc hm o).alloc (by simp; omega) o').trans (k.mono (by simp; omega))
/-- A block's number beside a later heap's size, in each form that the walk asks. -/
theorem older {b n : Nat} (h : b < n) : b < n ∧ b ≤ n ∧ b < n + 1 ∧ b < n + 2 ∧ b < n + 3 ∧ b < n + 4 ∧ b ≠ n ∧ n ≠ b ∧ b ≠ n + 1 ∧ n + 1 ≠ b ∧ b ≠ n + 2 ∧ n + 2 ≠ b ∧ b ≠ n + 3 ∧ n + 3 ≠ b := by omega

/-- The slice value v holds n elements of sz cells each: the cells xs, in a block of S (none is asked of an empty one). -/
def Row (w : World) (S : Reg) (sz : Nat) (v : Value) (n : Nat) (xs : List Value) : Prop :=
  xs.length = n * sz ∧ ∃ A cap, v = .slice A n cap ∧ n ≤ cap ∧ (0 < n → ∃ b off, A = some ⟨b, off, none⟩ ∧ S b ∧ ∀ j u, xs[j]? = some u → w.cell? ⟨b, off + j, none⟩ = some u)

variable {sz n : Nat} {v : Value} {xs : List Value}
theorem Row.to (h : Row w S sz v n xs) (hST : ∀ b, S b → T b) (hs : Same S w w') : Row w' T sz v n xs := by
  obtain ⟨h1, A, cap, hv, hn, hr⟩ := h
  refine ⟨h1, A, cap, hv, hn, fun h0 => ?_⟩
  obtain ⟨b, off, hA, hb, hc⟩ := hr h0
  exact ⟨b, off, hA, hST b hb, fun j u hu => (hs.cell hb _).trans (hc j u hu)⟩
theorem Row.form (h : Row w S sz v n xs) : ∃ A cap, v = .slice A n cap ∧ n ≤ cap := by
  obtain ⟨_, A, cap, hv, hn, _⟩ := h
  exact ⟨A, cap, hv, hn⟩
theorem Row.nil (w : World) (S : Reg) (sz : Nat) : Row w S sz (.slice none 0 0) 0 [] := ⟨by simp, none, 0, rfl, Nat.le_refl _, fun h => absurd h (by omega)⟩
theorem Row.block {A : Option Addr} {cap : Nat} (h : Row w S sz (.slice A n cap) n xs) (hn : 0 < n) : ∃ b off, A = some ⟨b, off, none⟩ ∧ S b ∧ ∀ j u, xs[j]? = some u → w.cell? ⟨b, off + j, none⟩ = some u := by
  obtain ⟨_, A', cap', hv, _, hr⟩ := h
  injection hv with h1 h2 h3
  subst h1
  exact hr hn
theorem Row.of_own {base : Nat} {e : TypeId} (h : w.ownsRow base e sz v n xs) : Row w (fun b => base ≤ b ∧ b < w.heap.size ∧ v.ownBlock = some b) sz v n xs := by
  refine ⟨h.1, ?_⟩
  rcases h.2 with ⟨rfl, rfl⟩ | ⟨g, cap, cur, rfl, hb, hg, hn, hc, hs, ht⟩
  · exact ⟨none, 0, rfl, Nat.le_refl _, fun h => absurd h (by omega)⟩
  · refine ⟨_, cap, rfl, hn, fun _ => ⟨g, 0, rfl, ⟨hb, lt_of_block hg, rfl⟩, fun j u hu => ?_⟩⟩
    have := h.cells (g := g) rfl j u hu
    rwa [show (⟨g, 0, none⟩ : Addr).add j = ⟨g, 0 + j, none⟩ from by unfold Addr.add; split <;> simp_all] at this
end

/-- The cells xs are those of the data l, sz cells each. -/
def Cells {α : Type} (C : List Value → α → Prop) (sz : Nat) : List Value → List α → Prop
  | xs, [] => xs = []
  | xs, x :: l => ∃ c ys, xs = c ++ ys ∧ c.length = sz ∧ C c x ∧ Cells C sz ys l

section
variable {α : Type} {C C' : List Value → α → Prop} {sz : Nat} {xs ys : List Value} {l m : List α}
theorem Cells.nil : Cells C sz [] [] := rfl
theorem Cells.cons {c : List Value} {x : α} (h1 : c.length = sz) (h2 : C c x) (h3 : Cells C sz xs l) : Cells C sz (c ++ xs) (x :: l) := ⟨c, xs, rfl, h1, h2, h3⟩
theorem Cells.uncons {x : α} (h : Cells C sz xs (x :: l)) : ∃ c ys, xs = c ++ ys ∧ c.length = sz ∧ C c x ∧ Cells C sz ys l := h
theorem Cells.length (h : Cells C sz xs l) : xs.length = l.length * sz := by
  induction l generalizing xs with
  | nil => have : xs = [] := h; simp [this]
  | cons x l ih =>
    obtain ⟨c, ys, rfl, h1, _, h3⟩ := h
    simp [ih h3, h1, Nat.add_mul, Nat.add_comm]
theorem Cells.mono (h : Cells C sz xs l) (hC : ∀ c x, C c x → C' c x) : Cells C' sz xs l := by
  induction l generalizing xs with
  | nil => exact h
  | cons x l ih =>
    obtain ⟨c, ys, rfl, h1, h2, h3⟩ := h
    exact ⟨c, ys, rfl, h1, hC _ _ h2, ih h3⟩
theorem Cells.one {c : List Value} {x : α} (h1 : c.length = sz) (h : C c x) : Cells C sz c [x] := ⟨c, [], by simp, h1, h, rfl⟩
theorem Cells.append (h : Cells C sz xs l) (k : Cells C sz ys m) : Cells C sz (xs ++ ys) (l ++ m) := by
  induction l generalizing xs with
  | nil =>
    have : xs = [] := h
    subst this
    exact k
  | cons x l ih =>
    obtain ⟨c, zs, rfl, h1, h2, h3⟩ := h
    exact ⟨c, zs ++ ys, by simp, h1, h2, ih h3⟩
theorem Cells.split (l : List α) : ∀ {xs : List Value}, Cells C sz xs (l ++ m) → ∃ ys zs, xs = ys ++ zs ∧ Cells C sz ys l ∧ Cells C sz zs m := by
  induction l with
  | nil => intro xs h; exact ⟨[], xs, rfl, rfl, h⟩
  | cons x l ih =>
    intro xs h
    obtain ⟨c, ys, rfl, h1, h2, h3⟩ := Cells.uncons (l := l ++ m) h
    obtain ⟨y1, y2, rfl, h4, h5⟩ := ih h3
    exact ⟨c ++ y1, y2, by simp, .cons h1 h2 h4, h5⟩
theorem Cells.take (h : Cells C sz xs l) (k : Nat) : Cells C sz (xs.take (k * sz)) (l.take k) := by
  have h' : Cells C sz xs (l.take k ++ l.drop k) := by rwa [List.take_append_drop]
  obtain ⟨ys, zs, rfl, h1, h2⟩ := Cells.split _ h'
  rcases Nat.lt_or_ge k l.length with hk | hk
  · have := h1.length
    rw [List.length_take, Nat.min_eq_left (by omega)] at this
    rwa [List.take_append_of_le_length (by omega), List.take_of_length_le (by omega)]
  · have e := h2.length
    rw [List.length_drop, Nat.sub_eq_zero_of_le hk, Nat.zero_mul] at e
    have : zs = [] := List.eq_nil_of_length_eq_zero e
    subst this
    have := h1.length
    rw [List.length_take, Nat.min_eq_right hk] at this
    rw [List.append_nil, List.take_of_length_le (by rw [this]; exact Nat.mul_le_mul_right _ hk)]
    exact h1
theorem Cells.drop (h : Cells C sz xs l) (k : Nat) : Cells C sz (xs.drop (k * sz)) (l.drop k) := by
  have h' : Cells C sz xs (l.take k ++ l.drop k) := by rwa [List.take_append_drop]
  obtain ⟨ys, zs, rfl, h1, h2⟩ := Cells.split _ h'
  rcases Nat.lt_or_ge k l.length with hk | hk
  · have := h1.length
    rw [List.length_take, Nat.min_eq_left (by omega)] at this
    rw [List.drop_append_of_le_length (by omega), List.drop_of_length_le (by omega)]
    simpa using h2
  · have e := h2.length
    rw [List.length_drop, Nat.sub_eq_zero_of_le hk, Nat.zero_mul] at e
    have : zs = [] := List.eq_nil_of_length_eq_zero e
    subst this
    have := h1.length
    rw [List.length_take, Nat.min_eq_right hk] at this
    rw [List.append_nil, List.drop_of_length_le (by rw [this]; exact Nat.mul_le_mul_right _ hk)]
    exact h2
theorem Cells.get (h : Cells C sz xs l) {i : Nat} (hi : i < l.length) : ∃ c, C c l[i] ∧ c.length = sz ∧ ∀ j u, c[j]? = some u → xs[i * sz + j]? = some u := by
  have hd := h.drop i
  rw [List.drop_eq_getElem_cons hi] at hd
  obtain ⟨c, ys, e, h1, h2, h3⟩ := Cells.uncons hd
  refine ⟨c, h2, h1, fun j u hu => ?_⟩
  rw [← List.getElem?_drop, e, List.getElem?_append_left (List.getElem?_eq_some_iff.1 hu).1]
  exact hu
end

/-- The slice value v reads as the list l, each element by C, all in blocks of S. -/
def Sl {α : Type} (w : World) (S : Reg) (sz : Nat) (C : World → Reg → List Value → α → Prop) (v : Value) (l : List α) : Prop :=
  ∃ xs, Row w S sz v l.length xs ∧ Cells (C w S) sz xs l

section
variable {α : Type} {w w' : World} {S T : Reg} {sz : Nat} {C : World → Reg → List Value → α → Prop} {v : Value} {l : List α}
theorem Sl.to (h : Sl w S sz C v l) (hC : ∀ c x, C w S c x → C w' T c x) (hST : ∀ b, S b → T b) (hs : Same S w w') : Sl w' T sz C v l := by
  obtain ⟨xs, h1, h2⟩ := h
  exact ⟨xs, h1.to hST hs, h2.mono hC⟩
theorem Sl.nil (w : World) (S : Reg) (sz : Nat) (C : World → Reg → List Value → α → Prop) : Sl w S sz C (.slice none 0 0) [] := ⟨[], Row.nil w S sz, .nil⟩
theorem Sl.form (h : Sl w S sz C v l) : ∃ A cap, v = .slice A l.length cap ∧ l.length ≤ cap := by
  obtain ⟨xs, h1, _⟩ := h
  exact h1.form
theorem Sl.len {A : Option Addr} {n cap : Nat} (h : Sl w S sz C (.slice A n cap) l) : n = l.length := by
  obtain ⟨A', c', e, _⟩ := h.form
  injection e
theorem Sl.cap {A : Option Addr} {n cap : Nat} (h : Sl w S sz C (.slice A n cap) l) : n ≤ cap := by
  obtain ⟨A', c', e, hc⟩ := h.form
  injection e with _ e1 e2
  omega
theorem Sl.take {A : Option Addr} {n cap k : Nat} (h : Sl w S sz C (.slice A n cap) l) (hk : k ≤ n) : Sl w S sz C (.slice A k cap) (l.take k) := by
  have hc := h.cap
  obtain ⟨xs, h1, h2⟩ := h
  obtain ⟨A', c', e, _⟩ := h1.form
  injection e with e1 e2 e3
  subst e1 e2 e3
  have hl : (l.take k).length = k := by rw [List.length_take]; omega
  refine ⟨xs.take (k * sz), ⟨?_, A, cap, by rw [hl], by omega, fun h0 => ?_⟩, h2.take k⟩
  · rw [hl, List.length_take, h1.1]
    exact Nat.min_eq_left (Nat.mul_le_mul_right _ hk)
  · rw [hl] at h0
    obtain ⟨b, off, hA, hb, hcell⟩ := h1.block (by omega)
    refine ⟨b, off, hA, hb, fun j u hu => hcell j u ?_⟩
    rw [List.getElem?_take] at hu
    split at hu
    · exact hu
    · cases hu
theorem Sl.at {A : Option Addr} {n cap : Nat} (h : Sl w S sz C (.slice A n cap) l) {i : Nat} (hi : i < l.length) : ∃ b off c, A = some ⟨b, off, none⟩ ∧ S b ∧ C w S c l[i] ∧ c.length = sz ∧ ∀ j u, c[j]? = some u → w.cell? ⟨b, off + (i * sz + j), none⟩ = some u := by
  obtain ⟨xs, h1, h2⟩ := h
  obtain ⟨A', cap', hv, _⟩ := h1.form
  injection hv with e1 e2 e3
  subst e1 e2 e3
  obtain ⟨b, off, hA, hb, hc⟩ := h1.block (by omega)
  obtain ⟨c, hc1, hc2, hc3⟩ := h2.get hi
  exact ⟨b, off, c, hA, hb, hc1, hc2, fun j u hu => hc _ _ (hc3 j u hu)⟩
end

/-! ### The program's data in memory -/
abbrev strV (l : List UInt8) : Value := .string ⟨l.toArray⟩
abbrev i64V (x : Int) : Value := .int .i64 x

def intC (_ : World) (_ : Reg) (c : List Value) (x : Int) : Prop := c = [.int .i64 x]
def fieldC (_ : World) (_ : Reg) (c : List Value) (f : Field) : Prop := c = [strV f.name, .int .i64 f.bits, .int .i64 f.low]
def entC (_ : World) (_ : Reg) (c : List Value) (e : Ent) : Prop := c = [.int .i64 e.n, .int .i64 e.gen]
def evtC (_ : World) (_ : Reg) (c : List Value) (e : Evt) : Prop := c = [.int .i64 e.sys, .int .i64 e.ent.n, .int .i64 e.ent.gen, .int .i64 e.val]
abbrev Ints (w : World) (S : Reg) (v : Value) (l : List Int) : Prop := Sl w S 1 intC v l
abbrev Fields (w : World) (S : Reg) (v : Value) (l : List Field) : Prop := Sl w S 3 fieldC v l
abbrev Ents (w : World) (S : Reg) (v : Value) (l : List Ent) : Prop := Sl w S 2 entC v l
abbrev Evts (w : World) (S : Reg) (v : Value) (l : List Evt) : Prop := Sl w S 4 evtC v l
def kindC (w : World) (S : Reg) (c : List Value) (k : Kind) : Prop := ∃ vf, c = [strV k.name, vf] ∧ Fields w S vf k.fields
abbrev Kinds (w : World) (S : Reg) (v : Value) (l : List Kind) : Prop := Sl w S 2 kindC v l
def compC (w : World) (S : Reg) (c : List Value) (x : Comp) : Prop := ∃ v, c = [.int .i64 x.kind, v] ∧ Ints w S v x.vals
abbrev Comps (w : World) (S : Reg) (v : Value) (l : List Comp) : Prop := Sl w S 2 compC v l
def itemC (w : World) (S : Reg) (c : List Value) (x : Item) : Prop := ∃ v, c = [.int .i64 x.ent.n, .int .i64 x.ent.gen, v] ∧ Comps w S v x.comps
abbrev Items (w : World) (S : Reg) (v : Value) (l : List Item) : Prop := Sl w S 3 itemC v l
def wdC (w : World) (S : Reg) (c : List Value) (x : Wd) : Prop := ∃ vk vg vi, c = [vk, vg, vi] ∧ Kinds w S vk x.kinds ∧ Ints w S vg x.gens ∧ Items w S vi x.items
def refCells (r : Ref) : List Value := [.int .i64 r.kind, .int .i64 r.field]
def argCells (a : Arg) : List Value := [.bool a.has, .int .i64 a.n, .int .i64 a.ref.kind, .int .i64 a.ref.field]
def opC (_ : World) (_ : Reg) (c : List Value) (o : Op) : Prop := c = [.int .i64 o.act, .int .i64 o.to.kind, .int .i64 o.to.field, .bool o.a.has, .int .i64 o.a.n, .int .i64 o.a.ref.kind, .int .i64 o.a.ref.field, .bool o.b.has, .int .i64 o.b.n, .int .i64 o.b.ref.kind, .int .i64 o.b.ref.field]
abbrev Ops (w : World) (S : Reg) (v : Value) (l : List Op) : Prop := Sl w S 11 opC v l
def sysC (w : World) (S : Reg) (c : List Value) (x : Sys) : Prop := ∃ v1 v2 v3 v4 v5 v6, c = [strV x.name, v1, v2, v3, v4, v5, v6] ∧ Ints w S v1 x.wth ∧ Ints w S v2 x.wout ∧ Ints w S v3 x.reads ∧ Ints w S v4 x.writes ∧ Ops w S v5 x.ops ∧ Comps w S v6 x.spawn
abbrev Syss (w : World) (S : Reg) (v : Value) (l : List Sys) : Prop := Sl w S 7 sysC v l

section
variable {w w' : World} {S T : Reg} {v : Value}
theorem Ints.to {l : List Int} (h : Ints w S v l) (hST : ∀ b, S b → T b) (hs : Same S w w') : Ints w' T v l := Sl.to h (fun _ _ h => h) hST hs
theorem Fields.to {l : List Field} (h : Fields w S v l) (hST : ∀ b, S b → T b) (hs : Same S w w') : Fields w' T v l := Sl.to h (fun _ _ h => h) hST hs
theorem Ents.to {l : List Ent} (h : Ents w S v l) (hST : ∀ b, S b → T b) (hs : Same S w w') : Ents w' T v l := Sl.to h (fun _ _ h => h) hST hs
theorem Evts.to {l : List Evt} (h : Evts w S v l) (hST : ∀ b, S b → T b) (hs : Same S w w') : Evts w' T v l := Sl.to h (fun _ _ h => h) hST hs
theorem Ops.to {l : List Op} (h : Ops w S v l) (hST : ∀ b, S b → T b) (hs : Same S w w') : Ops w' T v l := Sl.to h (fun _ _ h => h) hST hs
theorem kindC.to {c : List Value} {x : Kind} (h : kindC w S c x) (hST : ∀ b, S b → T b) (hs : Same S w w') : kindC w' T c x := by
  obtain ⟨vf, e, h⟩ := h
  exact ⟨vf, e, Fields.to h hST hs⟩
theorem Kinds.to {l : List Kind} (h : Kinds w S v l) (hST : ∀ b, S b → T b) (hs : Same S w w') : Kinds w' T v l := Sl.to h (fun _ _ h => h.to hST hs) hST hs
theorem compC.to {c : List Value} {x : Comp} (h : compC w S c x) (hST : ∀ b, S b → T b) (hs : Same S w w') : compC w' T c x := by
  obtain ⟨v, e, h⟩ := h
  exact ⟨v, e, Ints.to h hST hs⟩
theorem Comps.to {l : List Comp} (h : Comps w S v l) (hST : ∀ b, S b → T b) (hs : Same S w w') : Comps w' T v l := Sl.to h (fun _ _ h => h.to hST hs) hST hs
theorem itemC.to {c : List Value} {x : Item} (h : itemC w S c x) (hST : ∀ b, S b → T b) (hs : Same S w w') : itemC w' T c x := by
  obtain ⟨v, e, h⟩ := h
  exact ⟨v, e, Comps.to h hST hs⟩
theorem Items.to {l : List Item} (h : Items w S v l) (hST : ∀ b, S b → T b) (hs : Same S w w') : Items w' T v l := Sl.to h (fun _ _ h => h.to hST hs) hST hs
theorem wdC.to {c : List Value} {x : Wd} (h : wdC w S c x) (hST : ∀ b, S b → T b) (hs : Same S w w') : wdC w' T c x := by
  obtain ⟨vk, vg, vi, e, h1, h2, h3⟩ := h
  exact ⟨vk, vg, vi, e, Kinds.to h1 hST hs, Ints.to h2 hST hs, Items.to h3 hST hs⟩
theorem sysC.to {c : List Value} {x : Sys} (h : sysC w S c x) (hST : ∀ b, S b → T b) (hs : Same S w w') : sysC w' T c x := by
  obtain ⟨v1, v2, v3, v4, v5, v6, e, h1, h2, h3, h4, h5, h6⟩ := h
  exact ⟨v1, v2, v3, v4, v5, v6, e, Ints.to h1 hST hs, Ints.to h2 hST hs, Ints.to h3 hST hs, Ints.to h4 hST hs, Ops.to h5 hST hs, Comps.to h6 hST hs⟩
theorem Syss.to {l : List Sys} (h : Syss w S v l) (hST : ∀ b, S b → T b) (hs : Same S w w') : Syss w' T v l := Sl.to h (fun _ _ h => h.to hST hs) hST hs

/-! what was readable stays readable while nothing old turns -/
theorem Ints.up {l : List Int} (h : Ints w (Lt w) v l) (hb : Below w.heap.size w w') : Ints w' (Lt w') v l := h.to (fun b hb' => Nat.lt_of_lt_of_le hb' hb.size) (Same.lt hb)
theorem Fields.up {l : List Field} (h : Fields w (Lt w) v l) (hb : Below w.heap.size w w') : Fields w' (Lt w') v l := h.to (fun b hb' => Nat.lt_of_lt_of_le hb' hb.size) (Same.lt hb)
theorem Ents.up {l : List Ent} (h : Ents w (Lt w) v l) (hb : Below w.heap.size w w') : Ents w' (Lt w') v l := h.to (fun b hb' => Nat.lt_of_lt_of_le hb' hb.size) (Same.lt hb)
theorem Evts.up {l : List Evt} (h : Evts w (Lt w) v l) (hb : Below w.heap.size w w') : Evts w' (Lt w') v l := h.to (fun b hb' => Nat.lt_of_lt_of_le hb' hb.size) (Same.lt hb)
theorem Ops.up {l : List Op} (h : Ops w (Lt w) v l) (hb : Below w.heap.size w w') : Ops w' (Lt w') v l := h.to (fun b hb' => Nat.lt_of_lt_of_le hb' hb.size) (Same.lt hb)
theorem Kinds.up {l : List Kind} (h : Kinds w (Lt w) v l) (hb : Below w.heap.size w w') : Kinds w' (Lt w') v l := h.to (fun b hb' => Nat.lt_of_lt_of_le hb' hb.size) (Same.lt hb)
theorem Comps.up {l : List Comp} (h : Comps w (Lt w) v l) (hb : Below w.heap.size w w') : Comps w' (Lt w') v l := h.to (fun b hb' => Nat.lt_of_lt_of_le hb' hb.size) (Same.lt hb)
theorem Items.up {l : List Item} (h : Items w (Lt w) v l) (hb : Below w.heap.size w w') : Items w' (Lt w') v l := h.to (fun b hb' => Nat.lt_of_lt_of_le hb' hb.size) (Same.lt hb)
theorem Syss.up {l : List Sys} (h : Syss w (Lt w) v l) (hb : Below w.heap.size w w') : Syss w' (Lt w') v l := h.to (fun b hb' => Nat.lt_of_lt_of_le hb' hb.size) (Same.lt hb)
theorem kindC.up {c : List Value} {x : Kind} (h : kindC w (Lt w) c x) (hb : Below w.heap.size w w') : kindC w' (Lt w') c x := h.to (fun b hb' => Nat.lt_of_lt_of_le hb' hb.size) (Same.lt hb)
theorem compC.up {c : List Value} {x : Comp} (h : compC w (Lt w) c x) (hb : Below w.heap.size w w') : compC w' (Lt w') c x := h.to (fun b hb' => Nat.lt_of_lt_of_le hb' hb.size) (Same.lt hb)
theorem itemC.up {c : List Value} {x : Item} (h : itemC w (Lt w) c x) (hb : Below w.heap.size w w') : itemC w' (Lt w') c x := h.to (fun b hb' => Nat.lt_of_lt_of_le hb' hb.size) (Same.lt hb)
theorem wdC.up {c : List Value} {x : Wd} (h : wdC w (Lt w) c x) (hb : Below w.heap.size w w') : wdC w' (Lt w') c x := h.to (fun b hb' => Nat.lt_of_lt_of_le hb' hb.size) (Same.lt hb)
theorem sysC.up {c : List Value} {x : Sys} (h : sysC w (Lt w) c x) (hb : Below w.heap.size w w') : sysC w' (Lt w') c x := h.to (fun b hb' => Nat.lt_of_lt_of_le hb' hb.size) (Same.lt hb)

/-! one element, its cells written out, at the addresses that the walk computes -/
variable {A : Option Addr} {n cap i : Nat}
theorem Ints.at {l : List Int} (h : Ints w S (.slice A n cap) l) (hi : i < l.length) : ∃ b off, A = some ⟨b, off, none⟩ ∧ S b ∧ w.cell? ⟨b, off + i, none⟩ = some (.int .i64 l[i]) := by
  obtain ⟨b, off, c, hA, hb, hc, _, hj⟩ := Sl.at h hi
  subst hc
  have h0 := hj 0 _ rfl
  simp only [Nat.mul_one, Nat.add_zero] at h0
  exact ⟨b, off, hA, hb, h0⟩
theorem Fields.at {l : List Field} (h : Fields w S (.slice A n cap) l) (hi : i < l.length) : ∃ b off, A = some ⟨b, off, none⟩ ∧ S b ∧ w.cell? ⟨b, off + i * 3, none⟩ = some (strV l[i].name) ∧ w.cell? ⟨b, off + i * 3 + 1, none⟩ = some (.int .i64 l[i].bits) ∧ w.cell? ⟨b, off + i * 3 + 2, none⟩ = some (.int .i64 l[i].low) := by
  obtain ⟨b, off, c, hA, hb, hc, _, hj⟩ := Sl.at h hi
  subst hc
  exact ⟨b, off, hA, hb, hj 0 _ rfl, hj 1 _ rfl, hj 2 _ rfl⟩
theorem Ents.at {l : List Ent} (h : Ents w S (.slice A n cap) l) (hi : i < l.length) : ∃ b off, A = some ⟨b, off, none⟩ ∧ S b ∧ w.cell? ⟨b, off + i * 2, none⟩ = some (.int .i64 l[i].n) ∧ w.cell? ⟨b, off + i * 2 + 1, none⟩ = some (.int .i64 l[i].gen) := by
  obtain ⟨b, off, c, hA, hb, hc, _, hj⟩ := Sl.at h hi
  subst hc
  exact ⟨b, off, hA, hb, hj 0 _ rfl, hj 1 _ rfl⟩
theorem Evts.at {l : List Evt} (h : Evts w S (.slice A n cap) l) (hi : i < l.length) : ∃ b off, A = some ⟨b, off, none⟩ ∧ S b ∧ w.cell? ⟨b, off + i * 4, none⟩ = some (.int .i64 l[i].sys) ∧ w.cell? ⟨b, off + i * 4 + 1, none⟩ = some (.int .i64 l[i].ent.n) ∧ w.cell? ⟨b, off + i * 4 + 2, none⟩ = some (.int .i64 l[i].ent.gen) ∧ w.cell? ⟨b, off + i * 4 + 3, none⟩ = some (.int .i64 l[i].val) := by
  obtain ⟨b, off, c, hA, hb, hc, _, hj⟩ := Sl.at h hi
  subst hc
  exact ⟨b, off, hA, hb, hj 0 _ rfl, hj 1 _ rfl, hj 2 _ rfl, hj 3 _ rfl⟩
theorem Kinds.at {l : List Kind} (h : Kinds w S (.slice A n cap) l) (hi : i < l.length) : ∃ b off B m, A = some ⟨b, off, none⟩ ∧ S b ∧ w.cell? ⟨b, off + i * 2, none⟩ = some (strV l[i].name) ∧ w.cell? ⟨b, off + i * 2 + 1, none⟩ = some (.slice B l[i].fields.length m) ∧ Fields w S (.slice B l[i].fields.length m) l[i].fields := by
  obtain ⟨b, off, c, hA, hb, ⟨vf, rfl, hf⟩, _, hj⟩ := Sl.at h hi
  obtain ⟨B, m, rfl, _⟩ := hf.form
  exact ⟨b, off, B, m, hA, hb, hj 0 _ rfl, hj 1 _ rfl, hf⟩
theorem Comps.at {l : List Comp} (h : Comps w S (.slice A n cap) l) (hi : i < l.length) : ∃ b off B m, A = some ⟨b, off, none⟩ ∧ S b ∧ w.cell? ⟨b, off + i * 2, none⟩ = some (.int .i64 l[i].kind) ∧ w.cell? ⟨b, off + i * 2 + 1, none⟩ = some (.slice B l[i].vals.length m) ∧ Ints w S (.slice B l[i].vals.length m) l[i].vals := by
  obtain ⟨b, off, c, hA, hb, ⟨vf, rfl, hf⟩, _, hj⟩ := Sl.at h hi
  obtain ⟨B, m, rfl, _⟩ := hf.form
  exact ⟨b, off, B, m, hA, hb, hj 0 _ rfl, hj 1 _ rfl, hf⟩
theorem Items.at {l : List Item} (h : Items w S (.slice A n cap) l) (hi : i < l.length) : ∃ b off B m, A = some ⟨b, off, none⟩ ∧ S b ∧ w.cell? ⟨b, off + i * 3, none⟩ = some (.int .i64 l[i].ent.n) ∧ w.cell? ⟨b, off + i * 3 + 1, none⟩ = some (.int .i64 l[i].ent.gen) ∧ w.cell? ⟨b, off + i * 3 + 2, none⟩ = some (.slice B l[i].comps.length m) ∧ Comps w S (.slice B l[i].comps.length m) l[i].comps := by
  obtain ⟨b, off, c, hA, hb, ⟨vf, rfl, hf⟩, _, hj⟩ := Sl.at h hi
  obtain ⟨B, m, rfl, _⟩ := hf.form
  exact ⟨b, off, B, m, hA, hb, hj 0 _ rfl, hj 1 _ rfl, hj 2 _ rfl, hf⟩
end

/-! ### Lists that the call builds by append -/
/-- The call's own row v (elements of type e) holds the list l; what its elements lead to lies in blocks of S other than the row's own. -/
def OwnL {α : Type} (w : World) (base : Nat) (e : TypeId) (S : Reg) (sz : Nat) (C : World → Reg → List Value → α → Prop) (v : Value) (l : List α) : Prop :=
  ∃ xs, w.ownsRow base e sz v l.length xs ∧ Cells (C w (fun b => S b ∧ b < w.heap.size ∧ v.ownBlock ≠ some b)) sz xs l

section
variable {α : Type} {w w' : World} {base : Nat} {e : TypeId} {S T : Reg} {sz : Nat} {C : World → Reg → List Value → α → Prop} {v : Value} {l : List α}
theorem OwnL.nil (w : World) (base : Nat) (e : TypeId) (S : Reg) (sz : Nat) (C : World → Reg → List Value → α → Prop) : OwnL w base e S sz C (.slice none 0 0) ([] : List α) :=
  ⟨[], World.ownsRow_nil w base e sz, .nil⟩
theorem OwnL.sl (h : OwnL w base e S sz C v l) (hC : ∀ S' T' c x, C w S' c x → (∀ b, S' b → T' b) → C w T' c x) (hS : ∀ b, S b → T b) (hb : ∀ b, base ≤ b → b < w.heap.size → T b) : Sl w T sz C v l := by
  obtain ⟨xs, h1, h2⟩ := h
  exact ⟨xs, (Row.of_own h1).to (fun b hh => hb b hh.1 hh.2.1) (Same.refl _ _), h2.mono fun c x hc => hC _ _ c x hc (fun b hh => hS b hh.1)⟩
theorem OwnL.form (h : OwnL w base e S sz C v l) : ∃ A cap, v = .slice A l.length cap ∧ l.length ≤ cap := by
  obtain ⟨xs, h1, _⟩ := h
  exact (Row.of_own h1).form
/-- Other blocks turn, new ones come. -/
theorem OwnL.keep {row : Option Nat} (h : OwnL w base e S sz C v l) (hg : w.grownBy w' row) (hne : v.ownBlock = none ∨ v.ownBlock ≠ row) (hC : ∀ S' T' c x, C w S' c x → (∀ b, S' b → T' b) → Same S' w w' → C w' T' c x) (hS : ∀ b, S b → b < w.heap.size → T b) (hr : ∀ b, S b → some b ≠ row) : OwnL w' base e T sz C v l := by
  obtain ⟨xs, h1, h2⟩ := h
  refine ⟨xs, h1.kept hg hne, h2.mono fun c x hc => hC _ _ c x hc ?_ ?_⟩
  · rintro b ⟨hb, hl, hn⟩
    exact ⟨hS b hb hl, Nat.lt_of_lt_of_le hl hg.size, hn⟩
  · rintro b ⟨hb, hl, _⟩
    exact hg.block b hl (hr b hb)
/-- What an append leaves. -/
theorem OwnL.app {v' : Value} {news : List Value} {ls : List α} {xs : List Value} (hcell : Cells (C w (fun b => S b ∧ b < w.heap.size ∧ v.ownBlock ≠ some b)) sz xs l) (hown : w'.ownsRow base e sz v' (l ++ ls).length (xs ++ news)) (hg : w.grownBy w' v.ownBlock)
    (hat : v'.ownBlock = v.ownBlock ∨ v'.ownBlock = some w.heap.size) (hn : Cells (C w (fun b => S b ∧ b < w.heap.size ∧ v.ownBlock ≠ some b)) sz news ls)
    (hC : ∀ S' T' c x, C w S' c x → (∀ b, S' b → T' b) → Same S' w w' → C w' T' c x) : OwnL w' base e S sz C v' (l ++ ls) := by
  refine ⟨xs ++ news, hown, (hcell.append hn).mono fun c x hc => hC _ _ c x hc ?_ ?_⟩
  · rintro b ⟨hb, hl, hne⟩
    refine ⟨hb, Nat.lt_of_lt_of_le hl hg.size, ?_⟩
    rcases hat with e | e <;> rw [e]
    · exact hne
    · intro h'
      injection h' with h'
      omega
  · rintro b ⟨hb, hl, hne⟩
    exact hg.block b hl (fun e => hne e.symm)
end

/-! ### A row of numbers that the call has made -/
def Arr (w : World) (b : Nat) (e : TypeId) (l : List Int) : Prop := w.rowIs b e l.length (fun j => .int .i64 (l.getD j 0))
section
variable {w w' : World} {b : Nat} {e : TypeId} {l : List Int}
theorem Arr.made (w : World) (n : Nat) (e : TypeId) : Arr (w.alloc (.cells (madeCells #[.int .i64 0] n) e)) w.heap.size e (List.replicate n 0) := by
  unfold Arr
  rw [List.length_replicate]
  refine (World.rowIs_made w (.int .i64 0) n e).congr fun i hi => ?_
  simp [List.getD_eq_getElem?_getD, hi]
theorem Arr.set (h : Arr w b e l) {i : Nat} (hi : i < l.length) (x : Int) : Arr (w.setCell ⟨b, i, none⟩ (.int .i64 x)) b e (l.set i x) := by
  unfold Arr at *
  rw [List.length_set]
  refine (h.set i _).congr fun j hj => ?_
  by_cases e : j = i
  · subst e
    simp [hi]
  · simp [e, List.getElem?_set_ne (Ne.symm e)]
theorem Arr.setOther (h : Arr w b e l) {a : Addr} (ha : b ≠ a.block) (v : Value) : Arr (w.setCell a v) b e l := World.rowIs.setOther h ha v
theorem Arr.of_block (h : Arr w b e l) (k : w'.heap[b]? = w.heap[b]?) : Arr w' b e l := World.rowIs.of_block h k
theorem Arr.alloc (h : Arr w b e l) (o : Obj) : Arr (w.alloc o) b e l := World.rowIs.alloc h o
theorem Arr.drew (h : Arr w b e l) : Arr w.drew b e l := h
theorem Arr.lt (h : Arr w b e l) : b < w.heap.size := World.rowIs.lt h
theorem Arr.below (h : Arr w b e l) {B : Nat} (k : Below B w w') (hb : b < B) : Arr w' b e l := h.of_block (k.block b hb)
theorem Arr.cell (h : Arr w b e l) {i : Nat} (hi : i < l.length) : w.cell? ⟨b, i, none⟩ = some (.int .i64 l[i]) := by
  have := World.rowIs.cell h hi
  rwa [List.getD_eq_getElem?_getD, List.getElem?_eq_getElem hi] at this
theorem Arr.frozen (h : Arr w b e l) (i : Nat) : w.frozen? ⟨b, i, none⟩ = false := World.rowIs.frozen h i
theorem cells_ints (l : List Int) {w : World} {S : Reg} : Cells (intC w S) 1 (l.map (Value.int .i64)) l := by
  induction l with
  | nil => exact .nil
  | cons x l ih => exact ⟨[.int .i64 x], l.map (Value.int .i64), rfl, rfl, rfl, ih⟩
theorem Arr.ints (h : Arr w b e l) {S : Reg} (hS : S b) {n cap : Nat} (hn : n = l.length) (hc : n ≤ cap) : Ints w S (.slice (some ⟨b, 0, none⟩) n cap) l := by
  subst hn
  refine ⟨l.map (Value.int .i64), ⟨by simp, _, cap, rfl, hc, fun _ => ⟨b, 0, rfl, hS, fun j u hu => ?_⟩⟩, cells_ints l⟩
  have hj : j < l.length := by
    have := (List.getElem?_eq_some_iff.1 hu).1
    simpa using this
  rw [Nat.zero_add, h.cell hj]
  rw [List.getElem?_map, List.getElem?_eq_getElem hj] at hu
  simpa using hu
end

/-! ### A block that is known whole -/
def Blk (w : World) (g : Nat) (t : TypeId) (cs : Array Value) : Prop := w.heap[g]? = some (.cells cs t (0, 0))
section
variable {w w' : World} {g : Nat} {t : TypeId} {cs : Array Value}
theorem Blk.lt (h : Blk w g t cs) : g < w.heap.size := lt_of_block h
theorem Blk.cell (h : Blk w g t cs) (i : Nat) : w.cell? ⟨g, i, none⟩ = cs[i]? := cell_of_row w g i cs t (0, 0) h
theorem Blk.frozen (h : Blk w g t cs) (i : Nat) : w.frozen? ⟨g, i, none⟩ = false := by
  unfold Blk at h
  simp [World.frozen?, h]
theorem Blk.new (w : World) (t : TypeId) (cs : Array Value) : Blk (w.alloc (.cells cs t)) w.heap.size t cs := heap_alloc_new w _
theorem Blk.drew (h : Blk w g t cs) : Blk w.drew g t cs := h
theorem Blk.alloc (h : Blk w g t cs) (o : Obj) : Blk (w.alloc o) g t cs := (Below.heap_alloc w o g h.lt).trans h
theorem Blk.set_ (h : Blk w g t cs) (i : Nat) (u : Value) : Blk (w.setCell ⟨g, i, none⟩ u) g t (cs.setIfInBounds i u) := by
  unfold Blk at h ⊢
  simp [World.setCell, Array.getElem?_modify, h]
theorem Blk.far (h : Blk w g t cs) {p : Addr} (hp : g ≠ p.block) (u : Value) : Blk (w.setCell p u) g t cs := (Below.heap_setCell w p u g hp).trans h
theorem Blk.same (h : Blk w g t cs) {S : Reg} (hs : Same S w w') (hg : S g) : Blk w' g t cs := (hs g hg).trans h
theorem Blk.below {B : Nat} (h : Blk w g t cs) (hb : Below B w w') (hg : g < B) : Blk w' g t cs := (hb.block g hg).trans h
theorem Blk.grown {row : Option Nat} (h : Blk w g t cs) (hb : w.grownBy w' row) (hg : some g ≠ row) : Blk w' g t cs := (hb.block g h.lt hg).trans h
end
end Go.Proofs.Ytfkppbkipbbmaaa

namespace Go.Proofs.Ytfkppbkipbbmaaa
set_option linter.unusedSimpArgs false
set_option linter.unusedVariables false
open Go.ChangeShapes Go.WideShapes Go.ChangeAt Go.RowKit Go.Deep

theorem i64_of_wf {x : Int} (h : (Lit.int .i64 x).wf = true) : I64 x := by
  have := h
  simp [Lit.wf, IntKind.min, IntKind.max, IntKind.signed, IntKind.bits] at this
  unfold I64
  omega

theorem flat_at {α : Type} {sz : Nat} {cs : α → List Value} {f : Nat → Option Value} (hcs : ∀ x, (cs x).length = sz) : ∀ (l : List α) (off : Nat), (∀ i (hi : i < l.length) j u, (cs l[i])[j]? = some u → f (off + (i * sz + j)) = some u) →
    ∀ j u, (l.flatMap cs)[j]? = some u → f (off + j) = some u := by
  intro l
  induction l with
  | nil => intro off _ j u h; simp at h
  | cons x l ih =>
    intro off h j u hj
    rw [List.flatMap_cons] at hj
    rcases Nat.lt_or_ge j sz with hlt | hge
    · rw [List.getElem?_append_left (by rw [hcs]; exact hlt)] at hj
      have := h 0 (by simp) j u hj
      simpa using this
    · rw [List.getElem?_append_right (by rw [hcs]; exact hge), hcs] at hj
      have := ih (off + sz) (fun i hi j u hu => by
        have := h (i + 1) (by simp; omega) j u hu
        rwa [Nat.add_mul, Nat.one_mul, show off + (i * sz + sz + j) = off + sz + (i * sz + j) by omega] at this) (j - sz) u hj
      rwa [show off + sz + (j - sz) = off + j by omega] at this
theorem cells_flat {α : Type} {sz : Nat} {cs : α → List Value} {C : List Value → α → Prop} (hcs : ∀ x, (cs x).length = sz) (hC : ∀ x, C (cs x) x) (l : List α) : Cells C sz (l.flatMap cs) l := by
  induction l with
  | nil => rfl
  | cons x l ih => exact ⟨cs x, l.flatMap cs, by rw [List.flatMap_cons], hcs x, hC x, ih⟩
theorem sl_of_cells {α : Type} {w : World} {sz : Nat} {C : World → Reg → List Value → α → Prop} {a : Addr} {n cap : Nat} {l : List α} {cs : α → List Value} (hn : n ≤ cap) (hl : l.length = n) (hsz : 0 < sz) (hcs : ∀ x, (cs x).length = sz) (hC : ∀ x, C w (Lt w) (cs x) x)
    (hcell : ∀ i (hi : i < l.length) j u, (cs l[i])[j]? = some u → w.cell? (a.add (i * sz + j)) = some u) : Sl w (Lt w) sz C (.slice (some a) n cap) l := by
  subst hl
  refine ⟨l.flatMap cs, ⟨?_, some a, cap, rfl, hn, fun h0 => ?_⟩, cells_flat hcs hC l⟩
  · have := (cells_flat (C := fun _ _ => True) hcs (fun _ => trivial) l).length
    exact this
  · obtain ⟨b, off, spot⟩ := a
    have h1 : ∃ u, (cs l[0])[0]? = some u := ⟨_, List.getElem?_eq_getElem (by rw [hcs]; exact hsz)⟩
    obtain ⟨u, hu⟩ := h1
    have h2 := hcell 0 h0 0 u hu
    have hspot : spot = none := by simpa [Addr.add] using World.cell?_spot h2
    subst hspot
    refine ⟨b, off, rfl, ?_, ?_⟩
    · rw [Go.WideShapes.add_plain] at h2
      unfold World.cell? at h2
      simp only at h2
      show b < w.heap.size
      rcases Nat.lt_or_ge b w.heap.size with h | h
      · exact h
      · rw [Array.getElem?_eq_none h] at h2
        cases h2
    · refine flat_at (f := fun k => w.cell? ⟨b, k, none⟩) hcs l off fun i hi j u hu => ?_
      have := hcell i hi j u hu
      rwa [Go.WideShapes.add_plain] at this

section
variable {H : Type} {enc : TypeId × Value → H} {w : World} {a : Option Addr} {len cap : Nat} {d : DataW H} {p : List MemPlace}
theorem ints_arg (h : DataW.Trod enc Try.prog w 0 (fun _ => true) true 22 (.slice a len cap) d p) :
    ∃ z : List Int, Ints w (Lt w) (.slice a len cap) z ∧ (z = [] ∨ ∃ elems spare, d = .slice elems spare ∧ z.length ≤ elems.length + spare.length) := by
  obtain ⟨fuel, hf⟩ := h
  rcases open_slice Try.underlying22 hf with ⟨hcs, _⟩ | ⟨x, l, c, m, n, D, Pl, hcs, hb, hl, hm, hmm, hx, hi⟩
  · simp [Value.cells] at hcs
    obtain ⟨rfl, rfl, rfl⟩ := hcs
    exact ⟨[], Sl.nil _ _ _ _, .inl rfl⟩
  · simp [Value.cells] at hcs
    obtain ⟨rfl, rfl, rfl⟩ := hcs
    have hlm : len ≤ m := by rw [hmm]; split <;> omega
    have hex : ∀ i, ∃ e : Int, i < len → ∀ j u, ([Value.int .i64 e])[j]? = some u → w.cell? (x.add (i * 1 + j)) = some u := by
      intro i
      by_cases hil : i < len
      · obtain ⟨cs', hc, ht⟩ := hi i (by omega)
        rw [show Try.prog.cellsOf 3 = 1 from by kernel_rfl] at hc
        obtain ⟨_, hcl, hat⟩ := World.cells?_some hc
        obtain ⟨k, rfl, _⟩ := DataW.trod_int Try.underlying3 ht
        refine ⟨k, fun _ j u hu => ?_⟩
        have hj : j = 0 := by
          have := (List.getElem?_eq_some_iff.1 hu).1
          simp at this
          omega
        subst hj
        have := hat 0 (by omega)
        rw [Go.Deep.add_add] at this
        rw [this, hu]
      · exact ⟨0, fun h => absurd h hil⟩
    obtain ⟨f, hf'⟩ := Classical.axiomOfChoice hex
    refine ⟨(List.range len).map f, sl_of_cells (cs := fun e => [Value.int .i64 e]) hl (by simp) (by omega) (fun _ => rfl) (fun _ => rfl) (fun i hi' j u hu => ?_), .inr ⟨_, _, (Prod.mk.inj hx).1, by simp⟩⟩
    simp only [List.length_map, List.length_range] at hi'
    exact hf' i hi' j u (by simpa using hu)
end
end Go.Proofs.Ytfkppbkipbbmaaa

namespace Go.Proofs.Ytfkppbkipbbmaaa
set_option linter.unusedVariables false

instance tAg1 : TAg Try.prog 1 false := ⟨by kernel_rfl⟩
instance tSize1 : TSize Try.prog 1 1 := ⟨by kernel_rfl⟩
instance tZe1 : TZe Try.prog 1 [.nilFunc] := ⟨by kernel_rfl⟩
instance tBy1 : TBy Try.prog 1 8 := ⟨by kernel_rfl⟩
instance tAg2 : TAg Try.prog 2 false := ⟨by kernel_rfl⟩
instance tSize2 : TSize Try.prog 2 1 := ⟨by kernel_rfl⟩
instance tZe2 : TZe Try.prog 2 [.int .i64 0] := ⟨by kernel_rfl⟩
instance tBy2 : TBy Try.prog 2 8 := ⟨by kernel_rfl⟩
instance tAg3 : TAg Try.prog 3 false := ⟨by kernel_rfl⟩
instance tSize3 : TSize Try.prog 3 1 := ⟨by kernel_rfl⟩
instance tZe3 : TZe Try.prog 3 [.int .i64 0] := ⟨by kernel_rfl⟩
instance tBy3 : TBy Try.prog 3 8 := ⟨by kernel_rfl⟩
instance tAg4 : TAg Try.prog 4 false := ⟨by kernel_rfl⟩
instance tSize4 : TSize Try.prog 4 1 := ⟨by kernel_rfl⟩
instance tZe4 : TZe Try.prog 4 [.bool false] := ⟨by kernel_rfl⟩
instance tBy4 : TBy Try.prog 4 1 := ⟨by kernel_rfl⟩
instance tAg5 : TAg Try.prog 5 false := ⟨by kernel_rfl⟩
instance tSize5 : TSize Try.prog 5 1 := ⟨by kernel_rfl⟩
instance tZe5 : TZe Try.prog 5 [.int .u8 0] := ⟨by kernel_rfl⟩
instance tBy5 : TBy Try.prog 5 1 := ⟨by kernel_rfl⟩
instance tAg9 : TAg Try.prog 9 false := ⟨by kernel_rfl⟩
instance tSize9 : TSize Try.prog 9 1 := ⟨by kernel_rfl⟩
instance tZe9 : TZe Try.prog 9 [.string ByteArray.empty] := ⟨by kernel_rfl⟩
instance tBy9 : TBy Try.prog 9 16 := ⟨by kernel_rfl⟩
instance tSg9 : TSg Try.prog 9  := ⟨by kernel_rfl⟩
instance tAg12 : TAg Try.prog 12 false := ⟨by kernel_rfl⟩
instance tSize12 : TSize Try.prog 12 1 := ⟨by kernel_rfl⟩
instance tZe12 : TZe Try.prog 12 [.int .u64 0] := ⟨by kernel_rfl⟩
instance tBy12 : TBy Try.prog 12 8 := ⟨by kernel_rfl⟩
instance tAg13 : TAg Try.prog 13 true := ⟨by kernel_rfl⟩
instance tSize13 : TSize Try.prog 13 2 := ⟨by kernel_rfl⟩
instance tZe13 : TZe Try.prog 13 [.string ByteArray.empty, .int .u64 0] := ⟨by kernel_rfl⟩
instance tBy13 : TBy Try.prog 13 24 := ⟨by kernel_rfl⟩
instance tFl13_0 : TFl Try.prog 13 0 0 9 := ⟨by kernel_rfl⟩
instance tFl13_1 : TFl Try.prog 13 1 1 12 := ⟨by kernel_rfl⟩
instance tSt13 : TSt Try.prog 13 [.string ByteArray.empty, .int .u64 0] [(0, 1), (1, 1)] := ⟨by kernel_rfl⟩
instance tAg21 : TAg Try.prog 21 false := ⟨by kernel_rfl⟩
instance tSize21 : TSize Try.prog 21 1 := ⟨by kernel_rfl⟩
instance tZe21 : TZe Try.prog 21 [.int .i32 0] := ⟨by kernel_rfl⟩
instance tBy21 : TBy Try.prog 21 4 := ⟨by kernel_rfl⟩
instance tAg22 : TAg Try.prog 22 false := ⟨by kernel_rfl⟩
instance tSize22 : TSize Try.prog 22 1 := ⟨by kernel_rfl⟩
instance tZe22 : TZe Try.prog 22 [.slice none 0 0] := ⟨by kernel_rfl⟩
instance tBy22 : TBy Try.prog 22 24 := ⟨by kernel_rfl⟩
instance tEl22 : TEl Try.prog 22 3 := ⟨by kernel_rfl⟩
instance tRo22 : TRo Try.prog 22 3 1 8 := ⟨by kernel_rfl⟩
instance tAg23 : TAg Try.prog 23 false := ⟨by kernel_rfl⟩
instance tSize23 : TSize Try.prog 23 1 := ⟨by kernel_rfl⟩
instance tZe23 : TZe Try.prog 23 [.slice none 0 0] := ⟨by kernel_rfl⟩
instance tBy23 : TBy Try.prog 23 24 := ⟨by kernel_rfl⟩
instance tEl23 : TEl Try.prog 23 44 := ⟨by kernel_rfl⟩
instance tRo23 : TRo Try.prog 23 44 2 40 := ⟨by kernel_rfl⟩
instance tAg24 : TAg Try.prog 24 false := ⟨by kernel_rfl⟩
instance tSize24 : TSize Try.prog 24 1 := ⟨by kernel_rfl⟩
instance tZe24 : TZe Try.prog 24 [.slice none 0 0] := ⟨by kernel_rfl⟩
instance tBy24 : TBy Try.prog 24 24 := ⟨by kernel_rfl⟩
instance tEl24 : TEl Try.prog 24 36 := ⟨by kernel_rfl⟩
instance tRo24 : TRo Try.prog 24 36 3 40 := ⟨by kernel_rfl⟩
instance tAg25 : TAg Try.prog 25 true := ⟨by kernel_rfl⟩
instance tSize25 : TSize Try.prog 25 3 := ⟨by kernel_rfl⟩
instance tZe25 : TZe Try.prog 25 [.slice none 0 0, .slice none 0 0, .slice none 0 0] := ⟨by kernel_rfl⟩
instance tBy25 : TBy Try.prog 25 72 := ⟨by kernel_rfl⟩
instance tFl25_0 : TFl Try.prog 25 0 0 23 := ⟨by kernel_rfl⟩
instance tFl25_1 : TFl Try.prog 25 1 1 22 := ⟨by kernel_rfl⟩
instance tFl25_2 : TFl Try.prog 25 2 2 24 := ⟨by kernel_rfl⟩
instance tSt25 : TSt Try.prog 25 [.slice none 0 0, .slice none 0 0, .slice none 0 0] [(0, 1), (1, 1), (2, 1)] := ⟨by kernel_rfl⟩
instance tAg26 : TAg Try.prog 26 true := ⟨by kernel_rfl⟩
instance tSize26 : TSize Try.prog 26 3 := ⟨by kernel_rfl⟩
instance tZe26 : TZe Try.prog 26 [.slice none 0 0, .slice none 0 0, .slice none 0 0] := ⟨by kernel_rfl⟩
instance tBy26 : TBy Try.prog 26 72 := ⟨by kernel_rfl⟩
instance tFl26_0 : TFl Try.prog 26 0 0 23 := ⟨by kernel_rfl⟩
instance tFl26_1 : TFl Try.prog 26 1 1 22 := ⟨by kernel_rfl⟩
instance tFl26_2 : TFl Try.prog 26 2 2 24 := ⟨by kernel_rfl⟩
instance tSt26 : TSt Try.prog 26 [.slice none 0 0, .slice none 0 0, .slice none 0 0] [(0, 1), (1, 1), (2, 1)] := ⟨by kernel_rfl⟩
instance tAg27 : TAg Try.prog 27 false := ⟨by kernel_rfl⟩
instance tSize27 : TSize Try.prog 27 1 := ⟨by kernel_rfl⟩
instance tZe27 : TZe Try.prog 27 [.nilFunc] := ⟨by kernel_rfl⟩
instance tBy27 : TBy Try.prog 27 8 := ⟨by kernel_rfl⟩
instance tAg28 : TAg Try.prog 28 false := ⟨by kernel_rfl⟩
instance tSize28 : TSize Try.prog 28 1 := ⟨by kernel_rfl⟩
instance tZe28 : TZe Try.prog 28 [.nilFunc] := ⟨by kernel_rfl⟩
instance tBy28 : TBy Try.prog 28 8 := ⟨by kernel_rfl⟩
instance tAg30 : TAg Try.prog 30 false := ⟨by kernel_rfl⟩
instance tSize30 : TSize Try.prog 30 1 := ⟨by kernel_rfl⟩
instance tZe30 : TZe Try.prog 30 [.nilFunc] := ⟨by kernel_rfl⟩
instance tBy30 : TBy Try.prog 30 8 := ⟨by kernel_rfl⟩
instance tAg31 : TAg Try.prog 31 false := ⟨by kernel_rfl⟩
instance tSize31 : TSize Try.prog 31 1 := ⟨by kernel_rfl⟩
instance tZe31 : TZe Try.prog 31 [.map none] := ⟨by kernel_rfl⟩
instance tBy31 : TBy Try.prog 31 8 := ⟨by kernel_rfl⟩
instance tAg32 : TAg Try.prog 32 true := ⟨by kernel_rfl⟩
instance tSize32 : TSize Try.prog 32 2 := ⟨by kernel_rfl⟩
instance tZe32 : TZe Try.prog 32 [.int .i64 0, .int .i64 0] := ⟨by kernel_rfl⟩
instance tBy32 : TBy Try.prog 32 16 := ⟨by kernel_rfl⟩
instance tFl32_0 : TFl Try.prog 32 0 0 3 := ⟨by kernel_rfl⟩
instance tFl32_1 : TFl Try.prog 32 1 1 3 := ⟨by kernel_rfl⟩
instance tSt32 : TSt Try.prog 32 [.int .i64 0, .int .i64 0] [(0, 1), (1, 1)] := ⟨by kernel_rfl⟩
instance tAg33 : TAg Try.prog 33 true := ⟨by kernel_rfl⟩
instance tSize33 : TSize Try.prog 33 2 := ⟨by kernel_rfl⟩
instance tZe33 : TZe Try.prog 33 [.int .i64 0, .int .i64 0] := ⟨by kernel_rfl⟩
instance tBy33 : TBy Try.prog 33 16 := ⟨by kernel_rfl⟩
instance tFl33_0 : TFl Try.prog 33 0 0 3 := ⟨by kernel_rfl⟩
instance tFl33_1 : TFl Try.prog 33 1 1 3 := ⟨by kernel_rfl⟩
instance tSt33 : TSt Try.prog 33 [.int .i64 0, .int .i64 0] [(0, 1), (1, 1)] := ⟨by kernel_rfl⟩
instance tAg34 : TAg Try.prog 34 false := ⟨by kernel_rfl⟩
instance tSize34 : TSize Try.prog 34 1 := ⟨by kernel_rfl⟩
instance tZe34 : TZe Try.prog 34 [.slice none 0 0] := ⟨by kernel_rfl⟩
instance tBy34 : TBy Try.prog 34 24 := ⟨by kernel_rfl⟩
instance tEl34 : TEl Try.prog 34 141 := ⟨by kernel_rfl⟩
instance tRo34 : TRo Try.prog 34 141 2 32 := ⟨by kernel_rfl⟩
instance tAg35 : TAg Try.prog 35 true := ⟨by kernel_rfl⟩
instance tSize35 : TSize Try.prog 35 3 := ⟨by kernel_rfl⟩
instance tZe35 : TZe Try.prog 35 [.int .i64 0, .int .i64 0, .slice none 0 0] := ⟨by kernel_rfl⟩
instance tBy35 : TBy Try.prog 35 40 := ⟨by kernel_rfl⟩
instance tFl35_0 : TFl Try.prog 35 0 0 33 := ⟨by kernel_rfl⟩
instance tFl35_1 : TFl Try.prog 35 1 2 34 := ⟨by kernel_rfl⟩
instance tSt35 : TSt Try.prog 35 [.int .i64 0, .int .i64 0, .slice none 0 0] [(0, 2), (2, 1)] := ⟨by kernel_rfl⟩
instance tAg36 : TAg Try.prog 36 true := ⟨by kernel_rfl⟩
instance tSize36 : TSize Try.prog 36 3 := ⟨by kernel_rfl⟩
instance tZe36 : TZe Try.prog 36 [.int .i64 0, .int .i64 0, .slice none 0 0] := ⟨by kernel_rfl⟩
instance tBy36 : TBy Try.prog 36 40 := ⟨by kernel_rfl⟩
instance tFl36_0 : TFl Try.prog 36 0 0 33 := ⟨by kernel_rfl⟩
instance tFl36_1 : TFl Try.prog 36 1 2 34 := ⟨by kernel_rfl⟩
instance tSt36 : TSt Try.prog 36 [.int .i64 0, .int .i64 0, .slice none 0 0] [(0, 2), (2, 1)] := ⟨by kernel_rfl⟩
instance tAg37 : TAg Try.prog 37 false := ⟨by kernel_rfl⟩
instance tSize37 : TSize Try.prog 37 1 := ⟨by kernel_rfl⟩
instance tZe37 : TZe Try.prog 37 [.nilFunc] := ⟨by kernel_rfl⟩
instance tBy37 : TBy Try.prog 37 8 := ⟨by kernel_rfl⟩
instance tAg38 : TAg Try.prog 38 false := ⟨by kernel_rfl⟩
instance tSize38 : TSize Try.prog 38 1 := ⟨by kernel_rfl⟩
instance tZe38 : TZe Try.prog 38 [.slice none 0 0] := ⟨by kernel_rfl⟩
instance tBy38 : TBy Try.prog 38 24 := ⟨by kernel_rfl⟩
instance tEl38 : TEl Try.prog 38 46 := ⟨by kernel_rfl⟩
instance tRo38 : TRo Try.prog 38 46 10 136 := ⟨by kernel_rfl⟩
instance tAg39 : TAg Try.prog 39 false := ⟨by kernel_rfl⟩
instance tSize39 : TSize Try.prog 39 1 := ⟨by kernel_rfl⟩
instance tZe39 : TZe Try.prog 39 [.nilFunc] := ⟨by kernel_rfl⟩
instance tBy39 : TBy Try.prog 39 8 := ⟨by kernel_rfl⟩
instance tAg40 : TAg Try.prog 40 true := ⟨by kernel_rfl⟩
instance tSize40 : TSize Try.prog 40 3 := ⟨by kernel_rfl⟩
instance tZe40 : TZe Try.prog 40 [.string ByteArray.empty, .int .i64 0, .int .i64 0] := ⟨by kernel_rfl⟩
instance tBy40 : TBy Try.prog 40 32 := ⟨by kernel_rfl⟩
instance tFl40_0 : TFl Try.prog 40 0 0 9 := ⟨by kernel_rfl⟩
instance tFl40_1 : TFl Try.prog 40 1 1 3 := ⟨by kernel_rfl⟩
instance tFl40_2 : TFl Try.prog 40 2 2 3 := ⟨by kernel_rfl⟩
instance tSt40 : TSt Try.prog 40 [.string ByteArray.empty, .int .i64 0, .int .i64 0] [(0, 1), (1, 1), (2, 1)] := ⟨by kernel_rfl⟩
instance tAg41 : TAg Try.prog 41 true := ⟨by kernel_rfl⟩
instance tSize41 : TSize Try.prog 41 3 := ⟨by kernel_rfl⟩
instance tZe41 : TZe Try.prog 41 [.string ByteArray.empty, .int .i64 0, .int .i64 0] := ⟨by kernel_rfl⟩
instance tBy41 : TBy Try.prog 41 32 := ⟨by kernel_rfl⟩
instance tFl41_0 : TFl Try.prog 41 0 0 9 := ⟨by kernel_rfl⟩
instance tFl41_1 : TFl Try.prog 41 1 1 3 := ⟨by kernel_rfl⟩
instance tFl41_2 : TFl Try.prog 41 2 2 3 := ⟨by kernel_rfl⟩
instance tSt41 : TSt Try.prog 41 [.string ByteArray.empty, .int .i64 0, .int .i64 0] [(0, 1), (1, 1), (2, 1)] := ⟨by kernel_rfl⟩
instance tAg42 : TAg Try.prog 42 false := ⟨by kernel_rfl⟩
instance tSize42 : TSize Try.prog 42 1 := ⟨by kernel_rfl⟩
instance tZe42 : TZe Try.prog 42 [.slice none 0 0] := ⟨by kernel_rfl⟩
instance tBy42 : TBy Try.prog 42 24 := ⟨by kernel_rfl⟩
instance tEl42 : TEl Try.prog 42 41 := ⟨by kernel_rfl⟩
instance tRo42 : TRo Try.prog 42 41 3 32 := ⟨by kernel_rfl⟩
instance tAg43 : TAg Try.prog 43 true := ⟨by kernel_rfl⟩
instance tSize43 : TSize Try.prog 43 2 := ⟨by kernel_rfl⟩
instance tZe43 : TZe Try.prog 43 [.string ByteArray.empty, .slice none 0 0] := ⟨by kernel_rfl⟩
instance tBy43 : TBy Try.prog 43 40 := ⟨by kernel_rfl⟩
instance tFl43_0 : TFl Try.prog 43 0 0 9 := ⟨by kernel_rfl⟩
instance tFl43_1 : TFl Try.prog 43 1 1 42 := ⟨by kernel_rfl⟩
instance tSt43 : TSt Try.prog 43 [.string ByteArray.empty, .slice none 0 0] [(0, 1), (1, 1)] := ⟨by kernel_rfl⟩
instance tAg44 : TAg Try.prog 44 true := ⟨by kernel_rfl⟩
instance tSize44 : TSize Try.prog 44 2 := ⟨by kernel_rfl⟩
instance tZe44 : TZe Try.prog 44 [.string ByteArray.empty, .slice none 0 0] := ⟨by kernel_rfl⟩
instance tBy44 : TBy Try.prog 44 40 := ⟨by kernel_rfl⟩
instance tFl44_0 : TFl Try.prog 44 0 0 9 := ⟨by kernel_rfl⟩
instance tFl44_1 : TFl Try.prog 44 1 1 42 := ⟨by kernel_rfl⟩
instance tSt44 : TSt Try.prog 44 [.string ByteArray.empty, .slice none 0 0] [(0, 1), (1, 1)] := ⟨by kernel_rfl⟩
instance tAg45 : TAg Try.prog 45 true := ⟨by kernel_rfl⟩
instance tSize45 : TSize Try.prog 45 10 := ⟨by kernel_rfl⟩
instance tZe45 : TZe Try.prog 45 [.int .i64 0, .string ByteArray.empty, .string ByteArray.empty, .string ByteArray.empty, .int .i64 0, .string ByteArray.empty, .int .i64 0, .int .i64 0, .string ByteArray.empty, .slice none 0 0] := ⟨by kernel_rfl⟩
instance tBy45 : TBy Try.prog 45 136 := ⟨by kernel_rfl⟩
instance tFl45_0 : TFl Try.prog 45 0 0 3 := ⟨by kernel_rfl⟩
instance tFl45_1 : TFl Try.prog 45 1 1 9 := ⟨by kernel_rfl⟩
instance tFl45_2 : TFl Try.prog 45 2 2 9 := ⟨by kernel_rfl⟩
instance tFl45_3 : TFl Try.prog 45 3 3 9 := ⟨by kernel_rfl⟩
instance tFl45_4 : TFl Try.prog 45 4 4 3 := ⟨by kernel_rfl⟩
instance tFl45_5 : TFl Try.prog 45 5 5 41 := ⟨by kernel_rfl⟩
instance tFl45_6 : TFl Try.prog 45 6 8 44 := ⟨by kernel_rfl⟩
instance tSt45 : TSt Try.prog 45 [.int .i64 0, .string ByteArray.empty, .string ByteArray.empty, .string ByteArray.empty, .int .i64 0, .string ByteArray.empty, .int .i64 0, .int .i64 0, .string ByteArray.empty, .slice none 0 0] [(0, 1), (1, 1), (2, 1), (3, 1), (4, 1), (5, 3), (8, 2)] := ⟨by kernel_rfl⟩
instance tAg46 : TAg Try.prog 46 true := ⟨by kernel_rfl⟩
instance tSize46 : TSize Try.prog 46 10 := ⟨by kernel_rfl⟩
instance tZe46 : TZe Try.prog 46 [.int .i64 0, .string ByteArray.empty, .string ByteArray.empty, .string ByteArray.empty, .int .i64 0, .string ByteArray.empty, .int .i64 0, .int .i64 0, .string ByteArray.empty, .slice none 0 0] := ⟨by kernel_rfl⟩
instance tBy46 : TBy Try.prog 46 136 := ⟨by kernel_rfl⟩
instance tFl46_0 : TFl Try.prog 46 0 0 3 := ⟨by kernel_rfl⟩
instance tFl46_1 : TFl Try.prog 46 1 1 9 := ⟨by kernel_rfl⟩
instance tFl46_2 : TFl Try.prog 46 2 2 9 := ⟨by kernel_rfl⟩
instance tFl46_3 : TFl Try.prog 46 3 3 9 := ⟨by kernel_rfl⟩
instance tFl46_4 : TFl Try.prog 46 4 4 3 := ⟨by kernel_rfl⟩
instance tFl46_5 : TFl Try.prog 46 5 5 41 := ⟨by kernel_rfl⟩
instance tFl46_6 : TFl Try.prog 46 6 8 44 := ⟨by kernel_rfl⟩
instance tSt46 : TSt Try.prog 46 [.int .i64 0, .string ByteArray.empty, .string ByteArray.empty, .string ByteArray.empty, .int .i64 0, .string ByteArray.empty, .int .i64 0, .int .i64 0, .string ByteArray.empty, .slice none 0 0] [(0, 1), (1, 1), (2, 1), (3, 1), (4, 1), (5, 3), (8, 2)] := ⟨by kernel_rfl⟩
instance tAg47 : TAg Try.prog 47 false := ⟨by kernel_rfl⟩
instance tSize47 : TSize Try.prog 47 1 := ⟨by kernel_rfl⟩
instance tZe47 : TZe Try.prog 47 [.nilFunc] := ⟨by kernel_rfl⟩
instance tBy47 : TBy Try.prog 47 8 := ⟨by kernel_rfl⟩
instance tAg48 : TAg Try.prog 48 false := ⟨by kernel_rfl⟩
instance tSize48 : TSize Try.prog 48 1 := ⟨by kernel_rfl⟩
instance tZe48 : TZe Try.prog 48 [.nilFunc] := ⟨by kernel_rfl⟩
instance tBy48 : TBy Try.prog 48 8 := ⟨by kernel_rfl⟩
instance tAg49 : TAg Try.prog 49 false := ⟨by kernel_rfl⟩
instance tSize49 : TSize Try.prog 49 1 := ⟨by kernel_rfl⟩
instance tZe49 : TZe Try.prog 49 [.int .i64 0] := ⟨by kernel_rfl⟩
instance tBy49 : TBy Try.prog 49 8 := ⟨by kernel_rfl⟩
instance tAg51 : TAg Try.prog 51 false := ⟨by kernel_rfl⟩
instance tSize51 : TSize Try.prog 51 1 := ⟨by kernel_rfl⟩
instance tZe51 : TZe Try.prog 51 [.nilFunc] := ⟨by kernel_rfl⟩
instance tBy51 : TBy Try.prog 51 8 := ⟨by kernel_rfl⟩
instance tAg52 : TAg Try.prog 52 false := ⟨by kernel_rfl⟩
instance tSize52 : TSize Try.prog 52 1 := ⟨by kernel_rfl⟩
instance tZe52 : TZe Try.prog 52 [.nilFunc] := ⟨by kernel_rfl⟩
instance tBy52 : TBy Try.prog 52 8 := ⟨by kernel_rfl⟩
instance tAg53 : TAg Try.prog 53 false := ⟨by kernel_rfl⟩
instance tSize53 : TSize Try.prog 53 1 := ⟨by kernel_rfl⟩
instance tZe53 : TZe Try.prog 53 [.nilFunc] := ⟨by kernel_rfl⟩
instance tBy53 : TBy Try.prog 53 8 := ⟨by kernel_rfl⟩
instance tAg54 : TAg Try.prog 54 false := ⟨by kernel_rfl⟩
instance tSize54 : TSize Try.prog 54 1 := ⟨by kernel_rfl⟩
instance tZe54 : TZe Try.prog 54 [.nilFunc] := ⟨by kernel_rfl⟩
instance tBy54 : TBy Try.prog 54 8 := ⟨by kernel_rfl⟩
instance tAg56 : TAg Try.prog 56 false := ⟨by kernel_rfl⟩
instance tSize56 : TSize Try.prog 56 1 := ⟨by kernel_rfl⟩
instance tZe56 : TZe Try.prog 56 [.nilFunc] := ⟨by kernel_rfl⟩
instance tBy56 : TBy Try.prog 56 8 := ⟨by kernel_rfl⟩
instance tAg57 : TAg Try.prog 57 false := ⟨by kernel_rfl⟩
instance tSize57 : TSize Try.prog 57 1 := ⟨by kernel_rfl⟩
instance tZe57 : TZe Try.prog 57 [.nilFunc] := ⟨by kernel_rfl⟩
instance tBy57 : TBy Try.prog 57 8 := ⟨by kernel_rfl⟩
instance tAg58 : TAg Try.prog 58 false := ⟨by kernel_rfl⟩
instance tSize58 : TSize Try.prog 58 1 := ⟨by kernel_rfl⟩
instance tZe58 : TZe Try.prog 58 [.nilFunc] := ⟨by kernel_rfl⟩
instance tBy58 : TBy Try.prog 58 8 := ⟨by kernel_rfl⟩
instance tAg59 : TAg Try.prog 59 false := ⟨by kernel_rfl⟩
instance tSize59 : TSize Try.prog 59 1 := ⟨by kernel_rfl⟩
instance tZe59 : TZe Try.prog 59 [.nilFunc] := ⟨by kernel_rfl⟩
instance tBy59 : TBy Try.prog 59 8 := ⟨by kernel_rfl⟩
instance tAg60 : TAg Try.prog 60 false := ⟨by kernel_rfl⟩
instance tSize60 : TSize Try.prog 60 1 := ⟨by kernel_rfl⟩
instance tZe60 : TZe Try.prog 60 [.nilFunc] := ⟨by kernel_rfl⟩
instance tBy60 : TBy Try.prog 60 8 := ⟨by kernel_rfl⟩
instance tAg62 : TAg Try.prog 62 false := ⟨by kernel_rfl⟩
instance tSize62 : TSize Try.prog 62 1 := ⟨by kernel_rfl⟩
instance tZe62 : TZe Try.prog 62 [.nilFunc] := ⟨by kernel_rfl⟩
instance tBy62 : TBy Try.prog 62 8 := ⟨by kernel_rfl⟩
instance tAg63 : TAg Try.prog 63 false := ⟨by kernel_rfl⟩
instance tSize63 : TSize Try.prog 63 1 := ⟨by kernel_rfl⟩
instance tZe63 : TZe Try.prog 63 [.pointer none] := ⟨by kernel_rfl⟩
instance tBy63 : TBy Try.prog 63 8 := ⟨by kernel_rfl⟩
instance tAg64 : TAg Try.prog 64 false := ⟨by kernel_rfl⟩
instance tSize64 : TSize Try.prog 64 1 := ⟨by kernel_rfl⟩
instance tZe64 : TZe Try.prog 64 [.nilFunc] := ⟨by kernel_rfl⟩
instance tBy64 : TBy Try.prog 64 8 := ⟨by kernel_rfl⟩
instance tAg65 : TAg Try.prog 65 false := ⟨by kernel_rfl⟩
instance tSize65 : TSize Try.prog 65 1 := ⟨by kernel_rfl⟩
instance tZe65 : TZe Try.prog 65 [.nilFunc] := ⟨by kernel_rfl⟩
instance tBy65 : TBy Try.prog 65 8 := ⟨by kernel_rfl⟩
instance tAg66 : TAg Try.prog 66 false := ⟨by kernel_rfl⟩
instance tSize66 : TSize Try.prog 66 1 := ⟨by kernel_rfl⟩
instance tZe66 : TZe Try.prog 66 [.nilFunc] := ⟨by kernel_rfl⟩
instance tBy66 : TBy Try.prog 66 8 := ⟨by kernel_rfl⟩
instance tAg67 : TAg Try.prog 67 false := ⟨by kernel_rfl⟩
instance tSize67 : TSize Try.prog 67 1 := ⟨by kernel_rfl⟩
instance tZe67 : TZe Try.prog 67 [.nilFunc] := ⟨by kernel_rfl⟩
instance tBy67 : TBy Try.prog 67 8 := ⟨by kernel_rfl⟩
instance tAg68 : TAg Try.prog 68 false := ⟨by kernel_rfl⟩
instance tSize68 : TSize Try.prog 68 1 := ⟨by kernel_rfl⟩
instance tZe68 : TZe Try.prog 68 [.map none] := ⟨by kernel_rfl⟩
instance tBy68 : TBy Try.prog 68 8 := ⟨by kernel_rfl⟩
instance tAg69 : TAg Try.prog 69 false := ⟨by kernel_rfl⟩
instance tSize69 : TSize Try.prog 69 1 := ⟨by kernel_rfl⟩
instance tZe69 : TZe Try.prog 69 [.nilFunc] := ⟨by kernel_rfl⟩
instance tBy69 : TBy Try.prog 69 8 := ⟨by kernel_rfl⟩
instance tAg70 : TAg Try.prog 70 false := ⟨by kernel_rfl⟩
instance tSize70 : TSize Try.prog 70 1 := ⟨by kernel_rfl⟩
instance tZe70 : TZe Try.prog 70 [.nilFunc] := ⟨by kernel_rfl⟩
instance tBy70 : TBy Try.prog 70 8 := ⟨by kernel_rfl⟩
instance tAg71 : TAg Try.prog 71 false := ⟨by kernel_rfl⟩
instance tSize71 : TSize Try.prog 71 1 := ⟨by kernel_rfl⟩
instance tZe71 : TZe Try.prog 71 [.nilFunc] := ⟨by kernel_rfl⟩
instance tBy71 : TBy Try.prog 71 8 := ⟨by kernel_rfl⟩
instance tAg72 : TAg Try.prog 72 false := ⟨by kernel_rfl⟩
instance tSize72 : TSize Try.prog 72 1 := ⟨by kernel_rfl⟩
instance tZe72 : TZe Try.prog 72 [.slice none 0 0] := ⟨by kernel_rfl⟩
instance tBy72 : TBy Try.prog 72 24 := ⟨by kernel_rfl⟩
instance tEl72 : TEl Try.prog 72 5 := ⟨by kernel_rfl⟩
instance tRo72 : TRo Try.prog 72 5 1 1 := ⟨by kernel_rfl⟩
instance tAg73 : TAg Try.prog 73 false := ⟨by kernel_rfl⟩
instance tSize73 : TSize Try.prog 73 1 := ⟨by kernel_rfl⟩
instance tZe73 : TZe Try.prog 73 [.nilFunc] := ⟨by kernel_rfl⟩
instance tBy73 : TBy Try.prog 73 8 := ⟨by kernel_rfl⟩
instance tAg74 : TAg Try.prog 74 false := ⟨by kernel_rfl⟩
instance tSize74 : TSize Try.prog 74 1 := ⟨by kernel_rfl⟩
instance tZe74 : TZe Try.prog 74 [.nilFunc] := ⟨by kernel_rfl⟩
instance tBy74 : TBy Try.prog 74 8 := ⟨by kernel_rfl⟩
instance tAg76 : TAg Try.prog 76 false := ⟨by kernel_rfl⟩
instance tSize76 : TSize Try.prog 76 1 := ⟨by kernel_rfl⟩
instance tZe76 : TZe Try.prog 76 [.nilFunc] := ⟨by kernel_rfl⟩
instance tBy76 : TBy Try.prog 76 8 := ⟨by kernel_rfl⟩
instance tAg77 : TAg Try.prog 77 false := ⟨by kernel_rfl⟩
instance tSize77 : TSize Try.prog 77 1 := ⟨by kernel_rfl⟩
instance tZe77 : TZe Try.prog 77 [.nilFunc] := ⟨by kernel_rfl⟩
instance tBy77 : TBy Try.prog 77 8 := ⟨by kernel_rfl⟩
instance tAg79 : TAg Try.prog 79 false := ⟨by kernel_rfl⟩
instance tSize79 : TSize Try.prog 79 1 := ⟨by kernel_rfl⟩
instance tZe79 : TZe Try.prog 79 [.nilFunc] := ⟨by kernel_rfl⟩
instance tBy79 : TBy Try.prog 79 8 := ⟨by kernel_rfl⟩
instance tAg80 : TAg Try.prog 80 false := ⟨by kernel_rfl⟩
instance tSize80 : TSize Try.prog 80 1 := ⟨by kernel_rfl⟩
instance tZe80 : TZe Try.prog 80 [.nilFunc] := ⟨by kernel_rfl⟩
instance tBy80 : TBy Try.prog 80 8 := ⟨by kernel_rfl⟩
instance tAg81 : TAg Try.prog 81 false := ⟨by kernel_rfl⟩
instance tSize81 : TSize Try.prog 81 1 := ⟨by kernel_rfl⟩
instance tZe81 : TZe Try.prog 81 [.nilFunc] := ⟨by kernel_rfl⟩
instance tBy81 : TBy Try.prog 81 8 := ⟨by kernel_rfl⟩
instance tAg82 : TAg Try.prog 82 false := ⟨by kernel_rfl⟩
instance tSize82 : TSize Try.prog 82 1 := ⟨by kernel_rfl⟩
instance tZe82 : TZe Try.prog 82 [.pointer none] := ⟨by kernel_rfl⟩
instance tBy82 : TBy Try.prog 82 8 := ⟨by kernel_rfl⟩
instance tAg83 : TAg Try.prog 83 true := ⟨by kernel_rfl⟩
instance tSize83 : TSize Try.prog 83 1 := ⟨by kernel_rfl⟩
instance tZe83 : TZe Try.prog 83 [.slice none 0 0] := ⟨by kernel_rfl⟩
instance tBy83 : TBy Try.prog 83 24 := ⟨by kernel_rfl⟩
instance tFl83_0 : TFl Try.prog 83 0 0 22 := ⟨by kernel_rfl⟩
instance tSt83 : TSt Try.prog 83 [.slice none 0 0] [(0, 1)] := ⟨by kernel_rfl⟩
instance tAg84 : TAg Try.prog 84 true := ⟨by kernel_rfl⟩
instance tSize84 : TSize Try.prog 84 1 := ⟨by kernel_rfl⟩
instance tZe84 : TZe Try.prog 84 [.slice none 0 0] := ⟨by kernel_rfl⟩
instance tBy84 : TBy Try.prog 84 24 := ⟨by kernel_rfl⟩
instance tFl84_0 : TFl Try.prog 84 0 0 22 := ⟨by kernel_rfl⟩
instance tSt84 : TSt Try.prog 84 [.slice none 0 0] [(0, 1)] := ⟨by kernel_rfl⟩
instance tAg85 : TAg Try.prog 85 false := ⟨by kernel_rfl⟩
instance tSize85 : TSize Try.prog 85 1 := ⟨by kernel_rfl⟩
instance tZe85 : TZe Try.prog 85 [.nilFunc] := ⟨by kernel_rfl⟩
instance tBy85 : TBy Try.prog 85 8 := ⟨by kernel_rfl⟩
instance tAg86 : TAg Try.prog 86 false := ⟨by kernel_rfl⟩
instance tSize86 : TSize Try.prog 86 1 := ⟨by kernel_rfl⟩
instance tZe86 : TZe Try.prog 86 [.nilFunc] := ⟨by kernel_rfl⟩
instance tBy86 : TBy Try.prog 86 8 := ⟨by kernel_rfl⟩
instance tAg87 : TAg Try.prog 87 false := ⟨by kernel_rfl⟩
instance tSize87 : TSize Try.prog 87 1 := ⟨by kernel_rfl⟩
instance tZe87 : TZe Try.prog 87 [.nilFunc] := ⟨by kernel_rfl⟩
instance tBy87 : TBy Try.prog 87 8 := ⟨by kernel_rfl⟩
instance tAg89 : TAg Try.prog 89 false := ⟨by kernel_rfl⟩
instance tSize89 : TSize Try.prog 89 1 := ⟨by kernel_rfl⟩
instance tZe89 : TZe Try.prog 89 [.nilFunc] := ⟨by kernel_rfl⟩
instance tBy89 : TBy Try.prog 89 8 := ⟨by kernel_rfl⟩
instance tAg90 : TAg Try.prog 90 false := ⟨by kernel_rfl⟩
instance tSize90 : TSize Try.prog 90 1 := ⟨by kernel_rfl⟩
instance tZe90 : TZe Try.prog 90 [.nilFunc] := ⟨by kernel_rfl⟩
instance tBy90 : TBy Try.prog 90 8 := ⟨by kernel_rfl⟩
instance tAg91 : TAg Try.prog 91 false := ⟨by kernel_rfl⟩
instance tSize91 : TSize Try.prog 91 1 := ⟨by kernel_rfl⟩
instance tZe91 : TZe Try.prog 91 [.nilFunc] := ⟨by kernel_rfl⟩
instance tBy91 : TBy Try.prog 91 8 := ⟨by kernel_rfl⟩
instance tAg92 : TAg Try.prog 92 false := ⟨by kernel_rfl⟩
instance tSize92 : TSize Try.prog 92 1 := ⟨by kernel_rfl⟩
instance tZe92 : TZe Try.prog 92 [.slice none 0 0] := ⟨by kernel_rfl⟩
instance tBy92 : TBy Try.prog 92 24 := ⟨by kernel_rfl⟩
instance tEl92 : TEl Try.prog 92 4 := ⟨by kernel_rfl⟩
instance tRo92 : TRo Try.prog 92 4 1 1 := ⟨by kernel_rfl⟩
instance tAg93 : TAg Try.prog 93 false := ⟨by kernel_rfl⟩
instance tSize93 : TSize Try.prog 93 1 := ⟨by kernel_rfl⟩
instance tZe93 : TZe Try.prog 93 [.nilFunc] := ⟨by kernel_rfl⟩
instance tBy93 : TBy Try.prog 93 8 := ⟨by kernel_rfl⟩
instance tAg94 : TAg Try.prog 94 false := ⟨by kernel_rfl⟩
instance tSize94 : TSize Try.prog 94 1 := ⟨by kernel_rfl⟩
instance tZe94 : TZe Try.prog 94 [.nilFunc] := ⟨by kernel_rfl⟩
instance tBy94 : TBy Try.prog 94 8 := ⟨by kernel_rfl⟩
instance tAg95 : TAg Try.prog 95 false := ⟨by kernel_rfl⟩
instance tSize95 : TSize Try.prog 95 1 := ⟨by kernel_rfl⟩
instance tZe95 : TZe Try.prog 95 [.nilFunc] := ⟨by kernel_rfl⟩
instance tBy95 : TBy Try.prog 95 8 := ⟨by kernel_rfl⟩
instance tAg97 : TAg Try.prog 97 false := ⟨by kernel_rfl⟩
instance tSize97 : TSize Try.prog 97 1 := ⟨by kernel_rfl⟩
instance tZe97 : TZe Try.prog 97 [.nilFunc] := ⟨by kernel_rfl⟩
instance tBy97 : TBy Try.prog 97 8 := ⟨by kernel_rfl⟩
instance tAg98 : TAg Try.prog 98 false := ⟨by kernel_rfl⟩
instance tSize98 : TSize Try.prog 98 1 := ⟨by kernel_rfl⟩
instance tZe98 : TZe Try.prog 98 [.nilFunc] := ⟨by kernel_rfl⟩
instance tBy98 : TBy Try.prog 98 8 := ⟨by kernel_rfl⟩
instance tAg99 : TAg Try.prog 99 false := ⟨by kernel_rfl⟩
instance tSize99 : TSize Try.prog 99 1 := ⟨by kernel_rfl⟩
instance tZe99 : TZe Try.prog 99 [.nilFunc] := ⟨by kernel_rfl⟩
instance tBy99 : TBy Try.prog 99 8 := ⟨by kernel_rfl⟩
instance tAg100 : TAg Try.prog 100 false := ⟨by kernel_rfl⟩
instance tSize100 : TSize Try.prog 100 1 := ⟨by kernel_rfl⟩
instance tZe100 : TZe Try.prog 100 [.nilFunc] := ⟨by kernel_rfl⟩
instance tBy100 : TBy Try.prog 100 8 := ⟨by kernel_rfl⟩
instance tAg101 : TAg Try.prog 101 false := ⟨by kernel_rfl⟩
instance tSize101 : TSize Try.prog 101 1 := ⟨by kernel_rfl⟩
instance tZe101 : TZe Try.prog 101 [.nilFunc] := ⟨by kernel_rfl⟩
instance tBy101 : TBy Try.prog 101 8 := ⟨by kernel_rfl⟩
instance tAg102 : TAg Try.prog 102 false := ⟨by kernel_rfl⟩
instance tSize102 : TSize Try.prog 102 1 := ⟨by kernel_rfl⟩
instance tZe102 : TZe Try.prog 102 [.nilFunc] := ⟨by kernel_rfl⟩
instance tBy102 : TBy Try.prog 102 8 := ⟨by kernel_rfl⟩
instance tAg103 : TAg Try.prog 103 false := ⟨by kernel_rfl⟩
instance tSize103 : TSize Try.prog 103 1 := ⟨by kernel_rfl⟩
instance tZe103 : TZe Try.prog 103 [.slice none 0 0] := ⟨by kernel_rfl⟩
instance tBy103 : TBy Try.prog 103 24 := ⟨by kernel_rfl⟩
instance tEl103 : TEl Try.prog 103 38 := ⟨by kernel_rfl⟩
instance tRo103 : TRo Try.prog 103 38 1 24 := ⟨by kernel_rfl⟩
instance tAg104 : TAg Try.prog 104 false := ⟨by kernel_rfl⟩
instance tSize104 : TSize Try.prog 104 1 := ⟨by kernel_rfl⟩
instance tZe104 : TZe Try.prog 104 [.nilFunc] := ⟨by kernel_rfl⟩
instance tBy104 : TBy Try.prog 104 8 := ⟨by kernel_rfl⟩
instance tAg105 : TAg Try.prog 105 false := ⟨by kernel_rfl⟩
instance tSize105 : TSize Try.prog 105 1 := ⟨by kernel_rfl⟩
instance tZe105 : TZe Try.prog 105 [.nilFunc] := ⟨by kernel_rfl⟩
instance tBy105 : TBy Try.prog 105 8 := ⟨by kernel_rfl⟩
instance tAg106 : TAg Try.prog 106 false := ⟨by kernel_rfl⟩
instance tSize106 : TSize Try.prog 106 1 := ⟨by kernel_rfl⟩
instance tZe106 : TZe Try.prog 106 [.nilFunc] := ⟨by kernel_rfl⟩
instance tBy106 : TBy Try.prog 106 8 := ⟨by kernel_rfl⟩
instance tAg107 : TAg Try.prog 107 false := ⟨by kernel_rfl⟩
instance tSize107 : TSize Try.prog 107 1 := ⟨by kernel_rfl⟩
instance tZe107 : TZe Try.prog 107 [.nilFunc] := ⟨by kernel_rfl⟩
instance tBy107 : TBy Try.prog 107 8 := ⟨by kernel_rfl⟩
instance tAg108 : TAg Try.prog 108 false := ⟨by kernel_rfl⟩
instance tSize108 : TSize Try.prog 108 1 := ⟨by kernel_rfl⟩
instance tZe108 : TZe Try.prog 108 [.nilFunc] := ⟨by kernel_rfl⟩
instance tBy108 : TBy Try.prog 108 8 := ⟨by kernel_rfl⟩
instance tAg109 : TAg Try.prog 109 false := ⟨by kernel_rfl⟩
instance tSize109 : TSize Try.prog 109 1 := ⟨by kernel_rfl⟩
instance tZe109 : TZe Try.prog 109 [.nilFunc] := ⟨by kernel_rfl⟩
instance tBy109 : TBy Try.prog 109 8 := ⟨by kernel_rfl⟩
instance tAg110 : TAg Try.prog 110 false := ⟨by kernel_rfl⟩
instance tSize110 : TSize Try.prog 110 1 := ⟨by kernel_rfl⟩
instance tZe110 : TZe Try.prog 110 [.nilFunc] := ⟨by kernel_rfl⟩
instance tBy110 : TBy Try.prog 110 8 := ⟨by kernel_rfl⟩
instance tAg112 : TAg Try.prog 112 false := ⟨by kernel_rfl⟩
instance tSize112 : TSize Try.prog 112 1 := ⟨by kernel_rfl⟩
instance tZe112 : TZe Try.prog 112 [.nilFunc] := ⟨by kernel_rfl⟩
instance tBy112 : TBy Try.prog 112 8 := ⟨by kernel_rfl⟩
instance tAg113 : TAg Try.prog 113 false := ⟨by kernel_rfl⟩
instance tSize113 : TSize Try.prog 113 1 := ⟨by kernel_rfl⟩
instance tZe113 : TZe Try.prog 113 [.nilFunc] := ⟨by kernel_rfl⟩
instance tBy113 : TBy Try.prog 113 8 := ⟨by kernel_rfl⟩
instance tAg114 : TAg Try.prog 114 true := ⟨by kernel_rfl⟩
instance tSize114 : TSize Try.prog 114 3 := ⟨by kernel_rfl⟩
instance tZe114 : TZe Try.prog 114 [.slice none 0 0, .slice none 0 0, .map none] := ⟨by kernel_rfl⟩
instance tBy114 : TBy Try.prog 114 56 := ⟨by kernel_rfl⟩
instance tFl114_0 : TFl Try.prog 114 0 0 22 := ⟨by kernel_rfl⟩
instance tFl114_1 : TFl Try.prog 114 1 1 22 := ⟨by kernel_rfl⟩
instance tFl114_2 : TFl Try.prog 114 2 2 68 := ⟨by kernel_rfl⟩
instance tSt114 : TSt Try.prog 114 [.slice none 0 0, .slice none 0 0, .map none] [(0, 1), (1, 1), (2, 1)] := ⟨by kernel_rfl⟩
instance tAg115 : TAg Try.prog 115 true := ⟨by kernel_rfl⟩
instance tSize115 : TSize Try.prog 115 3 := ⟨by kernel_rfl⟩
instance tZe115 : TZe Try.prog 115 [.slice none 0 0, .slice none 0 0, .map none] := ⟨by kernel_rfl⟩
instance tBy115 : TBy Try.prog 115 56 := ⟨by kernel_rfl⟩
instance tFl115_0 : TFl Try.prog 115 0 0 22 := ⟨by kernel_rfl⟩
instance tFl115_1 : TFl Try.prog 115 1 1 22 := ⟨by kernel_rfl⟩
instance tFl115_2 : TFl Try.prog 115 2 2 68 := ⟨by kernel_rfl⟩
instance tSt115 : TSt Try.prog 115 [.slice none 0 0, .slice none 0 0, .map none] [(0, 1), (1, 1), (2, 1)] := ⟨by kernel_rfl⟩
instance tAg116 : TAg Try.prog 116 false := ⟨by kernel_rfl⟩
instance tSize116 : TSize Try.prog 116 1 := ⟨by kernel_rfl⟩
instance tZe116 : TZe Try.prog 116 [.nilFunc] := ⟨by kernel_rfl⟩
instance tBy116 : TBy Try.prog 116 8 := ⟨by kernel_rfl⟩
instance tAg117 : TAg Try.prog 117 false := ⟨by kernel_rfl⟩
instance tSize117 : TSize Try.prog 117 1 := ⟨by kernel_rfl⟩
instance tZe117 : TZe Try.prog 117 [.nilFunc] := ⟨by kernel_rfl⟩
instance tBy117 : TBy Try.prog 117 8 := ⟨by kernel_rfl⟩
instance tAg118 : TAg Try.prog 118 false := ⟨by kernel_rfl⟩
instance tSize118 : TSize Try.prog 118 1 := ⟨by kernel_rfl⟩
instance tZe118 : TZe Try.prog 118 [.nilFunc] := ⟨by kernel_rfl⟩
instance tBy118 : TBy Try.prog 118 8 := ⟨by kernel_rfl⟩
instance tAg119 : TAg Try.prog 119 false := ⟨by kernel_rfl⟩
instance tSize119 : TSize Try.prog 119 1 := ⟨by kernel_rfl⟩
instance tZe119 : TZe Try.prog 119 [.nilFunc] := ⟨by kernel_rfl⟩
instance tBy119 : TBy Try.prog 119 8 := ⟨by kernel_rfl⟩
instance tAg120 : TAg Try.prog 120 false := ⟨by kernel_rfl⟩
instance tSize120 : TSize Try.prog 120 1 := ⟨by kernel_rfl⟩
instance tZe120 : TZe Try.prog 120 [.nilFunc] := ⟨by kernel_rfl⟩
instance tBy120 : TBy Try.prog 120 8 := ⟨by kernel_rfl⟩
instance tAg121 : TAg Try.prog 121 false := ⟨by kernel_rfl⟩
instance tSize121 : TSize Try.prog 121 1 := ⟨by kernel_rfl⟩
instance tZe121 : TZe Try.prog 121 [.nilFunc] := ⟨by kernel_rfl⟩
instance tBy121 : TBy Try.prog 121 8 := ⟨by kernel_rfl⟩
instance tAg122 : TAg Try.prog 122 false := ⟨by kernel_rfl⟩
instance tSize122 : TSize Try.prog 122 1 := ⟨by kernel_rfl⟩
instance tZe122 : TZe Try.prog 122 [.pointer none] := ⟨by kernel_rfl⟩
instance tBy122 : TBy Try.prog 122 8 := ⟨by kernel_rfl⟩
instance tAg123 : TAg Try.prog 123 false := ⟨by kernel_rfl⟩
instance tSize123 : TSize Try.prog 123 1 := ⟨by kernel_rfl⟩
instance tZe123 : TZe Try.prog 123 [.pointer none] := ⟨by kernel_rfl⟩
instance tBy123 : TBy Try.prog 123 8 := ⟨by kernel_rfl⟩
instance tAg124 : TAg Try.prog 124 false := ⟨by kernel_rfl⟩
instance tSize124 : TSize Try.prog 124 1 := ⟨by kernel_rfl⟩
instance tZe124 : TZe Try.prog 124 [.nilFunc] := ⟨by kernel_rfl⟩
instance tBy124 : TBy Try.prog 124 8 := ⟨by kernel_rfl⟩
instance tAg125 : TAg Try.prog 125 true := ⟨by kernel_rfl⟩
instance tSize125 : TSize Try.prog 125 2 := ⟨by kernel_rfl⟩
instance tZe125 : TZe Try.prog 125 [.pointer none, .bool false] := ⟨by kernel_rfl⟩
instance tBy125 : TBy Try.prog 125 16 := ⟨by kernel_rfl⟩
instance tFl125_0 : TFl Try.prog 125 0 0 123 := ⟨by kernel_rfl⟩
instance tFl125_1 : TFl Try.prog 125 1 1 4 := ⟨by kernel_rfl⟩
instance tSt125 : TSt Try.prog 125 [.pointer none, .bool false] [(0, 1), (1, 1)] := ⟨by kernel_rfl⟩
instance tAg126 : TAg Try.prog 126 true := ⟨by kernel_rfl⟩
instance tSize126 : TSize Try.prog 126 2 := ⟨by kernel_rfl⟩
instance tZe126 : TZe Try.prog 126 [.pointer none, .bool false] := ⟨by kernel_rfl⟩
instance tBy126 : TBy Try.prog 126 16 := ⟨by kernel_rfl⟩
instance tFl126_0 : TFl Try.prog 126 0 0 123 := ⟨by kernel_rfl⟩
instance tFl126_1 : TFl Try.prog 126 1 1 4 := ⟨by kernel_rfl⟩
instance tSt126 : TSt Try.prog 126 [.pointer none, .bool false] [(0, 1), (1, 1)] := ⟨by kernel_rfl⟩
instance tAg127 : TAg Try.prog 127 false := ⟨by kernel_rfl⟩
instance tSize127 : TSize Try.prog 127 1 := ⟨by kernel_rfl⟩
instance tZe127 : TZe Try.prog 127 [.nilFunc] := ⟨by kernel_rfl⟩
instance tBy127 : TBy Try.prog 127 8 := ⟨by kernel_rfl⟩
instance tAg128 : TAg Try.prog 128 false := ⟨by kernel_rfl⟩
instance tSize128 : TSize Try.prog 128 1 := ⟨by kernel_rfl⟩
instance tZe128 : TZe Try.prog 128 [.nilFunc] := ⟨by kernel_rfl⟩
instance tBy128 : TBy Try.prog 128 8 := ⟨by kernel_rfl⟩
instance tAg129 : TAg Try.prog 129 false := ⟨by kernel_rfl⟩
instance tSize129 : TSize Try.prog 129 1 := ⟨by kernel_rfl⟩
instance tZe129 : TZe Try.prog 129 [.pointer none] := ⟨by kernel_rfl⟩
instance tBy129 : TBy Try.prog 129 8 := ⟨by kernel_rfl⟩
instance tAg130 : TAg Try.prog 130 true := ⟨by kernel_rfl⟩
instance tSize130 : TSize Try.prog 130 2 := ⟨by kernel_rfl⟩
instance tZe130 : TZe Try.prog 130 [.slice none 0 0, .int .i64 0] := ⟨by kernel_rfl⟩
instance tBy130 : TBy Try.prog 130 32 := ⟨by kernel_rfl⟩
instance tFl130_0 : TFl Try.prog 130 0 0 72 := ⟨by kernel_rfl⟩
instance tFl130_1 : TFl Try.prog 130 1 1 3 := ⟨by kernel_rfl⟩
instance tSt130 : TSt Try.prog 130 [.slice none 0 0, .int .i64 0] [(0, 1), (1, 1)] := ⟨by kernel_rfl⟩
instance tAg131 : TAg Try.prog 131 true := ⟨by kernel_rfl⟩
instance tSize131 : TSize Try.prog 131 2 := ⟨by kernel_rfl⟩
instance tZe131 : TZe Try.prog 131 [.slice none 0 0, .int .i64 0] := ⟨by kernel_rfl⟩
instance tBy131 : TBy Try.prog 131 32 := ⟨by kernel_rfl⟩
instance tFl131_0 : TFl Try.prog 131 0 0 72 := ⟨by kernel_rfl⟩
instance tFl131_1 : TFl Try.prog 131 1 1 3 := ⟨by kernel_rfl⟩
instance tSt131 : TSt Try.prog 131 [.slice none 0 0, .int .i64 0] [(0, 1), (1, 1)] := ⟨by kernel_rfl⟩
instance tAg132 : TAg Try.prog 132 true := ⟨by kernel_rfl⟩
instance tSize132 : TSize Try.prog 132 3 := ⟨by kernel_rfl⟩
instance tZe132 : TZe Try.prog 132 [.slice none 0 0, .int .i64 0, .int .i64 0] := ⟨by kernel_rfl⟩
instance tBy132 : TBy Try.prog 132 40 := ⟨by kernel_rfl⟩
instance tFl132_0 : TFl Try.prog 132 0 0 131 := ⟨by kernel_rfl⟩
instance tFl132_1 : TFl Try.prog 132 1 2 49 := ⟨by kernel_rfl⟩
instance tSt132 : TSt Try.prog 132 [.slice none 0 0, .int .i64 0, .int .i64 0] [(0, 2), (2, 1)] := ⟨by kernel_rfl⟩
instance tAg133 : TAg Try.prog 133 true := ⟨by kernel_rfl⟩
instance tSize133 : TSize Try.prog 133 3 := ⟨by kernel_rfl⟩
instance tZe133 : TZe Try.prog 133 [.slice none 0 0, .int .i64 0, .int .i64 0] := ⟨by kernel_rfl⟩
instance tBy133 : TBy Try.prog 133 40 := ⟨by kernel_rfl⟩
instance tFl133_0 : TFl Try.prog 133 0 0 131 := ⟨by kernel_rfl⟩
instance tFl133_1 : TFl Try.prog 133 1 2 49 := ⟨by kernel_rfl⟩
instance tSt133 : TSt Try.prog 133 [.slice none 0 0, .int .i64 0, .int .i64 0] [(0, 2), (2, 1)] := ⟨by kernel_rfl⟩
instance tAg134 : TAg Try.prog 134 false := ⟨by kernel_rfl⟩
instance tSize134 : TSize Try.prog 134 1 := ⟨by kernel_rfl⟩
instance tZe134 : TZe Try.prog 134 [.nilFunc] := ⟨by kernel_rfl⟩
instance tBy134 : TBy Try.prog 134 8 := ⟨by kernel_rfl⟩
instance tAg135 : TAg Try.prog 135 false := ⟨by kernel_rfl⟩
instance tSize135 : TSize Try.prog 135 1 := ⟨by kernel_rfl⟩
instance tZe135 : TZe Try.prog 135 [.int .u64 0] := ⟨by kernel_rfl⟩
instance tBy135 : TBy Try.prog 135 8 := ⟨by kernel_rfl⟩
instance tAg136 : TAg Try.prog 136 false := ⟨by kernel_rfl⟩
instance tSize136 : TSize Try.prog 136 1 := ⟨by kernel_rfl⟩
instance tZe136 : TZe Try.prog 136 [.nilFunc] := ⟨by kernel_rfl⟩
instance tBy136 : TBy Try.prog 136 8 := ⟨by kernel_rfl⟩
instance tAg137 : TAg Try.prog 137 false := ⟨by kernel_rfl⟩
instance tSize137 : TSize Try.prog 137 1 := ⟨by kernel_rfl⟩
instance tZe137 : TZe Try.prog 137 [.nilFunc] := ⟨by kernel_rfl⟩
instance tBy137 : TBy Try.prog 137 8 := ⟨by kernel_rfl⟩
instance tAg138 : TAg Try.prog 138 false := ⟨by kernel_rfl⟩
instance tSize138 : TSize Try.prog 138 1 := ⟨by kernel_rfl⟩
instance tZe138 : TZe Try.prog 138 [.nilFunc] := ⟨by kernel_rfl⟩
instance tBy138 : TBy Try.prog 138 8 := ⟨by kernel_rfl⟩
instance tAg139 : TAg Try.prog 139 false := ⟨by kernel_rfl⟩
instance tSize139 : TSize Try.prog 139 1 := ⟨by kernel_rfl⟩
instance tZe139 : TZe Try.prog 139 [.slice none 0 0] := ⟨by kernel_rfl⟩
instance tBy139 : TBy Try.prog 139 24 := ⟨by kernel_rfl⟩
instance tEl139 : TEl Try.prog 139 9 := ⟨by kernel_rfl⟩
instance tRo139 : TRo Try.prog 139 9 1 16 := ⟨by kernel_rfl⟩
instance tAg140 : TAg Try.prog 140 true := ⟨by kernel_rfl⟩
instance tSize140 : TSize Try.prog 140 2 := ⟨by kernel_rfl⟩
instance tZe140 : TZe Try.prog 140 [.int .i64 0, .slice none 0 0] := ⟨by kernel_rfl⟩
instance tBy140 : TBy Try.prog 140 32 := ⟨by kernel_rfl⟩
instance tFl140_0 : TFl Try.prog 140 0 0 3 := ⟨by kernel_rfl⟩
instance tFl140_1 : TFl Try.prog 140 1 1 22 := ⟨by kernel_rfl⟩
instance tSt140 : TSt Try.prog 140 [.int .i64 0, .slice none 0 0] [(0, 1), (1, 1)] := ⟨by kernel_rfl⟩
instance tAg141 : TAg Try.prog 141 true := ⟨by kernel_rfl⟩
instance tSize141 : TSize Try.prog 141 2 := ⟨by kernel_rfl⟩
instance tZe141 : TZe Try.prog 141 [.int .i64 0, .slice none 0 0] := ⟨by kernel_rfl⟩
instance tBy141 : TBy Try.prog 141 32 := ⟨by kernel_rfl⟩
instance tFl141_0 : TFl Try.prog 141 0 0 3 := ⟨by kernel_rfl⟩
instance tFl141_1 : TFl Try.prog 141 1 1 22 := ⟨by kernel_rfl⟩
instance tSt141 : TSt Try.prog 141 [.int .i64 0, .slice none 0 0] [(0, 1), (1, 1)] := ⟨by kernel_rfl⟩
instance tAg142 : TAg Try.prog 142 false := ⟨by kernel_rfl⟩
instance tSize142 : TSize Try.prog 142 1 := ⟨by kernel_rfl⟩
instance tZe142 : TZe Try.prog 142 [.nilFunc] := ⟨by kernel_rfl⟩
instance tBy142 : TBy Try.prog 142 8 := ⟨by kernel_rfl⟩
instance tAg143 : TAg Try.prog 143 false := ⟨by kernel_rfl⟩
instance tSize143 : TSize Try.prog 143 1 := ⟨by kernel_rfl⟩
instance tZe143 : TZe Try.prog 143 [.nilFunc] := ⟨by kernel_rfl⟩
instance tBy143 : TBy Try.prog 143 8 := ⟨by kernel_rfl⟩
instance tAg144 : TAg Try.prog 144 false := ⟨by kernel_rfl⟩
instance tSize144 : TSize Try.prog 144 1 := ⟨by kernel_rfl⟩
instance tZe144 : TZe Try.prog 144 [.nilFunc] := ⟨by kernel_rfl⟩
instance tBy144 : TBy Try.prog 144 8 := ⟨by kernel_rfl⟩
instance tAg145 : TAg Try.prog 145 false := ⟨by kernel_rfl⟩
instance tSize145 : TSize Try.prog 145 1 := ⟨by kernel_rfl⟩
instance tZe145 : TZe Try.prog 145 [.nilFunc] := ⟨by kernel_rfl⟩
instance tBy145 : TBy Try.prog 145 8 := ⟨by kernel_rfl⟩
instance tAg146 : TAg Try.prog 146 false := ⟨by kernel_rfl⟩
instance tSize146 : TSize Try.prog 146 1 := ⟨by kernel_rfl⟩
instance tZe146 : TZe Try.prog 146 [.nilFunc] := ⟨by kernel_rfl⟩
instance tBy146 : TBy Try.prog 146 8 := ⟨by kernel_rfl⟩
instance tAg147 : TAg Try.prog 147 false := ⟨by kernel_rfl⟩
instance tSize147 : TSize Try.prog 147 1 := ⟨by kernel_rfl⟩
instance tZe147 : TZe Try.prog 147 [.nilFunc] := ⟨by kernel_rfl⟩
instance tBy147 : TBy Try.prog 147 8 := ⟨by kernel_rfl⟩
instance tAg148 : TAg Try.prog 148 false := ⟨by kernel_rfl⟩
instance tSize148 : TSize Try.prog 148 1 := ⟨by kernel_rfl⟩
instance tZe148 : TZe Try.prog 148 [.nilFunc] := ⟨by kernel_rfl⟩
instance tBy148 : TBy Try.prog 148 8 := ⟨by kernel_rfl⟩
instance tAg149 : TAg Try.prog 149 false := ⟨by kernel_rfl⟩
instance tSize149 : TSize Try.prog 149 1 := ⟨by kernel_rfl⟩
instance tZe149 : TZe Try.prog 149 [.nilFunc] := ⟨by kernel_rfl⟩
instance tBy149 : TBy Try.prog 149 8 := ⟨by kernel_rfl⟩
instance tAg150 : TAg Try.prog 150 false := ⟨by kernel_rfl⟩
instance tSize150 : TSize Try.prog 150 1 := ⟨by kernel_rfl⟩
instance tZe150 : TZe Try.prog 150 [.nilFunc] := ⟨by kernel_rfl⟩
instance tBy150 : TBy Try.prog 150 8 := ⟨by kernel_rfl⟩
instance tAg151 : TAg Try.prog 151 false := ⟨by kernel_rfl⟩
instance tSize151 : TSize Try.prog 151 1 := ⟨by kernel_rfl⟩
instance tZe151 : TZe Try.prog 151 [.nilFunc] := ⟨by kernel_rfl⟩
instance tBy151 : TBy Try.prog 151 8 := ⟨by kernel_rfl⟩
instance tAg152 : TAg Try.prog 152 false := ⟨by kernel_rfl⟩
instance tSize152 : TSize Try.prog 152 1 := ⟨by kernel_rfl⟩
instance tZe152 : TZe Try.prog 152 [.nilFunc] := ⟨by kernel_rfl⟩
instance tBy152 : TBy Try.prog 152 8 := ⟨by kernel_rfl⟩
instance tAg153 : TAg Try.prog 153 false := ⟨by kernel_rfl⟩
instance tSize153 : TSize Try.prog 153 1 := ⟨by kernel_rfl⟩
instance tZe153 : TZe Try.prog 153 [.nilFunc] := ⟨by kernel_rfl⟩
instance tBy153 : TBy Try.prog 153 8 := ⟨by kernel_rfl⟩
instance tAg154 : TAg Try.prog 154 false := ⟨by kernel_rfl⟩
instance tSize154 : TSize Try.prog 154 1 := ⟨by kernel_rfl⟩
instance tZe154 : TZe Try.prog 154 [.nilFunc] := ⟨by kernel_rfl⟩
instance tBy154 : TBy Try.prog 154 8 := ⟨by kernel_rfl⟩
instance tAg155 : TAg Try.prog 155 false := ⟨by kernel_rfl⟩
instance tSize155 : TSize Try.prog 155 1 := ⟨by kernel_rfl⟩
instance tZe155 : TZe Try.prog 155 [.nilFunc] := ⟨by kernel_rfl⟩
instance tBy155 : TBy Try.prog 155 8 := ⟨by kernel_rfl⟩
instance tAg156 : TAg Try.prog 156 false := ⟨by kernel_rfl⟩
instance tSize156 : TSize Try.prog 156 1 := ⟨by kernel_rfl⟩
instance tZe156 : TZe Try.prog 156 [.nilFunc] := ⟨by kernel_rfl⟩
instance tBy156 : TBy Try.prog 156 8 := ⟨by kernel_rfl⟩
instance tAg157 : TAg Try.prog 157 false := ⟨by kernel_rfl⟩
instance tSize157 : TSize Try.prog 157 1 := ⟨by kernel_rfl⟩
instance tZe157 : TZe Try.prog 157 [.nilFunc] := ⟨by kernel_rfl⟩
instance tBy157 : TBy Try.prog 157 8 := ⟨by kernel_rfl⟩
instance tAg158 : TAg Try.prog 158 false := ⟨by kernel_rfl⟩
instance tSize158 : TSize Try.prog 158 1 := ⟨by kernel_rfl⟩
instance tZe158 : TZe Try.prog 158 [.nilFunc] := ⟨by kernel_rfl⟩
instance tBy158 : TBy Try.prog 158 8 := ⟨by kernel_rfl⟩
instance tAg159 : TAg Try.prog 159 false := ⟨by kernel_rfl⟩
instance tSize159 : TSize Try.prog 159 1 := ⟨by kernel_rfl⟩
instance tZe159 : TZe Try.prog 159 [.nilFunc] := ⟨by kernel_rfl⟩
instance tBy159 : TBy Try.prog 159 8 := ⟨by kernel_rfl⟩
instance tAg160 : TAg Try.prog 160 true := ⟨by kernel_rfl⟩
instance tSize160 : TSize Try.prog 160 2 := ⟨by kernel_rfl⟩
instance tZe160 : TZe Try.prog 160 [.slice none 0 0, .int .i64 0] := ⟨by kernel_rfl⟩
instance tBy160 : TBy Try.prog 160 32 := ⟨by kernel_rfl⟩
instance tFl160_0 : TFl Try.prog 160 0 0 72 := ⟨by kernel_rfl⟩
instance tFl160_1 : TFl Try.prog 160 1 1 3 := ⟨by kernel_rfl⟩
instance tSt160 : TSt Try.prog 160 [.slice none 0 0, .int .i64 0] [(0, 1), (1, 1)] := ⟨by kernel_rfl⟩
instance tAg162 : TAg Try.prog 162 false := ⟨by kernel_rfl⟩
instance tSize162 : TSize Try.prog 162 1 := ⟨by kernel_rfl⟩
instance tZe162 : TZe Try.prog 162 [.nilFunc] := ⟨by kernel_rfl⟩
instance tBy162 : TBy Try.prog 162 8 := ⟨by kernel_rfl⟩
instance tAg163 : TAg Try.prog 163 false := ⟨by kernel_rfl⟩
instance tSize163 : TSize Try.prog 163 1 := ⟨by kernel_rfl⟩
instance tZe163 : TZe Try.prog 163 [.nilFunc] := ⟨by kernel_rfl⟩
instance tBy163 : TBy Try.prog 163 8 := ⟨by kernel_rfl⟩
instance tAg164 : TAg Try.prog 164 false := ⟨by kernel_rfl⟩
instance tSize164 : TSize Try.prog 164 1 := ⟨by kernel_rfl⟩
instance tZe164 : TZe Try.prog 164 [.nilFunc] := ⟨by kernel_rfl⟩
instance tBy164 : TBy Try.prog 164 8 := ⟨by kernel_rfl⟩
instance tAg165 : TAg Try.prog 165 false := ⟨by kernel_rfl⟩
instance tSize165 : TSize Try.prog 165 1 := ⟨by kernel_rfl⟩
instance tZe165 : TZe Try.prog 165 [.nilFunc] := ⟨by kernel_rfl⟩
instance tBy165 : TBy Try.prog 165 8 := ⟨by kernel_rfl⟩
instance tAg166 : TAg Try.prog 166 false := ⟨by kernel_rfl⟩
instance tSize166 : TSize Try.prog 166 1 := ⟨by kernel_rfl⟩
instance tZe166 : TZe Try.prog 166 [.nilFunc] := ⟨by kernel_rfl⟩
instance tBy166 : TBy Try.prog 166 8 := ⟨by kernel_rfl⟩
instance tAg167 : TAg Try.prog 167 false := ⟨by kernel_rfl⟩
instance tSize167 : TSize Try.prog 167 1 := ⟨by kernel_rfl⟩
instance tZe167 : TZe Try.prog 167 [.nilFunc] := ⟨by kernel_rfl⟩
instance tBy167 : TBy Try.prog 167 8 := ⟨by kernel_rfl⟩
instance tAg168 : TAg Try.prog 168 false := ⟨by kernel_rfl⟩
instance tSize168 : TSize Try.prog 168 1 := ⟨by kernel_rfl⟩
instance tZe168 : TZe Try.prog 168 [.nilFunc] := ⟨by kernel_rfl⟩
instance tBy168 : TBy Try.prog 168 8 := ⟨by kernel_rfl⟩
instance tAg169 : TAg Try.prog 169 false := ⟨by kernel_rfl⟩
instance tSize169 : TSize Try.prog 169 1 := ⟨by kernel_rfl⟩
instance tZe169 : TZe Try.prog 169 [.nilFunc] := ⟨by kernel_rfl⟩
instance tBy169 : TBy Try.prog 169 8 := ⟨by kernel_rfl⟩
instance tAg170 : TAg Try.prog 170 false := ⟨by kernel_rfl⟩
instance tSize170 : TSize Try.prog 170 1 := ⟨by kernel_rfl⟩
instance tZe170 : TZe Try.prog 170 [.pointer none] := ⟨by kernel_rfl⟩
instance tBy170 : TBy Try.prog 170 8 := ⟨by kernel_rfl⟩
instance tAg171 : TAg Try.prog 171 false := ⟨by kernel_rfl⟩
instance tSize171 : TSize Try.prog 171 1 := ⟨by kernel_rfl⟩
instance tZe171 : TZe Try.prog 171 [.nilFunc] := ⟨by kernel_rfl⟩
instance tBy171 : TBy Try.prog 171 8 := ⟨by kernel_rfl⟩
instance tAg172 : TAg Try.prog 172 false := ⟨by kernel_rfl⟩
instance tSize172 : TSize Try.prog 172 1 := ⟨by kernel_rfl⟩
instance tZe172 : TZe Try.prog 172 [.nilFunc] := ⟨by kernel_rfl⟩
instance tBy172 : TBy Try.prog 172 8 := ⟨by kernel_rfl⟩
instance tAg173 : TAg Try.prog 173 false := ⟨by kernel_rfl⟩
instance tSize173 : TSize Try.prog 173 1 := ⟨by kernel_rfl⟩
instance tZe173 : TZe Try.prog 173 [.nilFunc] := ⟨by kernel_rfl⟩
instance tBy173 : TBy Try.prog 173 8 := ⟨by kernel_rfl⟩
instance tAg174 : TAg Try.prog 174 false := ⟨by kernel_rfl⟩
instance tSize174 : TSize Try.prog 174 1 := ⟨by kernel_rfl⟩
instance tZe174 : TZe Try.prog 174 [.nilFunc] := ⟨by kernel_rfl⟩
instance tBy174 : TBy Try.prog 174 8 := ⟨by kernel_rfl⟩
instance tAg175 : TAg Try.prog 175 false := ⟨by kernel_rfl⟩
instance tSize175 : TSize Try.prog 175 1 := ⟨by kernel_rfl⟩
instance tZe175 : TZe Try.prog 175 [.nilFunc] := ⟨by kernel_rfl⟩
instance tBy175 : TBy Try.prog 175 8 := ⟨by kernel_rfl⟩
instance tAg176 : TAg Try.prog 176 false := ⟨by kernel_rfl⟩
instance tSize176 : TSize Try.prog 176 1 := ⟨by kernel_rfl⟩
instance tZe176 : TZe Try.prog 176 [.nilFunc] := ⟨by kernel_rfl⟩
instance tBy176 : TBy Try.prog 176 8 := ⟨by kernel_rfl⟩
instance tAg177 : TAg Try.prog 177 false := ⟨by kernel_rfl⟩
instance tSize177 : TSize Try.prog 177 1 := ⟨by kernel_rfl⟩
instance tZe177 : TZe Try.prog 177 [.nilFunc] := ⟨by kernel_rfl⟩
instance tBy177 : TBy Try.prog 177 8 := ⟨by kernel_rfl⟩
instance tAg178 : TAg Try.prog 178 false := ⟨by kernel_rfl⟩
instance tSize178 : TSize Try.prog 178 1 := ⟨by kernel_rfl⟩
instance tZe178 : TZe Try.prog 178 [.nilFunc] := ⟨by kernel_rfl⟩
instance tBy178 : TBy Try.prog 178 8 := ⟨by kernel_rfl⟩
instance tAg179 : TAg Try.prog 179 false := ⟨by kernel_rfl⟩
instance tSize179 : TSize Try.prog 179 1 := ⟨by kernel_rfl⟩
instance tZe179 : TZe Try.prog 179 [.nilFunc] := ⟨by kernel_rfl⟩
instance tBy179 : TBy Try.prog 179 8 := ⟨by kernel_rfl⟩
instance tAg180 : TAg Try.prog 180 false := ⟨by kernel_rfl⟩
instance tSize180 : TSize Try.prog 180 1 := ⟨by kernel_rfl⟩
instance tZe180 : TZe Try.prog 180 [.nilFunc] := ⟨by kernel_rfl⟩
instance tBy180 : TBy Try.prog 180 8 := ⟨by kernel_rfl⟩
instance tAg181 : TAg Try.prog 181 false := ⟨by kernel_rfl⟩
instance tSize181 : TSize Try.prog 181 1 := ⟨by kernel_rfl⟩
instance tZe181 : TZe Try.prog 181 [.int .u64 0] := ⟨by kernel_rfl⟩
instance tBy181 : TBy Try.prog 181 8 := ⟨by kernel_rfl⟩
instance tAg182 : TAg Try.prog 182 false := ⟨by kernel_rfl⟩
instance tSize182 : TSize Try.prog 182 1 := ⟨by kernel_rfl⟩
instance tZe182 : TZe Try.prog 182 [.nilFunc] := ⟨by kernel_rfl⟩
instance tBy182 : TBy Try.prog 182 8 := ⟨by kernel_rfl⟩
instance tAg183 : TAg Try.prog 183 false := ⟨by kernel_rfl⟩
instance tSize183 : TSize Try.prog 183 1 := ⟨by kernel_rfl⟩
instance tZe183 : TZe Try.prog 183 [.nilFunc] := ⟨by kernel_rfl⟩
instance tBy183 : TBy Try.prog 183 8 := ⟨by kernel_rfl⟩
instance tAg184 : TAg Try.prog 184 false := ⟨by kernel_rfl⟩
instance tSize184 : TSize Try.prog 184 1 := ⟨by kernel_rfl⟩
instance tZe184 : TZe Try.prog 184 [.nilFunc] := ⟨by kernel_rfl⟩
instance tBy184 : TBy Try.prog 184 8 := ⟨by kernel_rfl⟩
instance tAg185 : TAg Try.prog 185 false := ⟨by kernel_rfl⟩
instance tSize185 : TSize Try.prog 185 1 := ⟨by kernel_rfl⟩
instance tZe185 : TZe Try.prog 185 [.nilFunc] := ⟨by kernel_rfl⟩
instance tBy185 : TBy Try.prog 185 8 := ⟨by kernel_rfl⟩
instance tAg186 : TAg Try.prog 186 false := ⟨by kernel_rfl⟩
instance tSize186 : TSize Try.prog 186 1 := ⟨by kernel_rfl⟩
instance tZe186 : TZe Try.prog 186 [.nilFunc] := ⟨by kernel_rfl⟩
instance tBy186 : TBy Try.prog 186 8 := ⟨by kernel_rfl⟩
instance tAg187 : TAg Try.prog 187 false := ⟨by kernel_rfl⟩
instance tSize187 : TSize Try.prog 187 1 := ⟨by kernel_rfl⟩
instance tZe187 : TZe Try.prog 187 [.nilFunc] := ⟨by kernel_rfl⟩
instance tBy187 : TBy Try.prog 187 8 := ⟨by kernel_rfl⟩
instance tAg188 : TAg Try.prog 188 false := ⟨by kernel_rfl⟩
instance tSize188 : TSize Try.prog 188 1 := ⟨by kernel_rfl⟩
instance tZe188 : TZe Try.prog 188 [.int .i64 0] := ⟨by kernel_rfl⟩
instance tBy188 : TBy Try.prog 188 8 := ⟨by kernel_rfl⟩
instance tAg190 : TAg Try.prog 190 false := ⟨by kernel_rfl⟩
instance tSize190 : TSize Try.prog 190 1 := ⟨by kernel_rfl⟩
instance tZe190 : TZe Try.prog 190 [.nilFunc] := ⟨by kernel_rfl⟩
instance tBy190 : TBy Try.prog 190 8 := ⟨by kernel_rfl⟩
instance tAg191 : TAg Try.prog 191 false := ⟨by kernel_rfl⟩
instance tSize191 : TSize Try.prog 191 1 := ⟨by kernel_rfl⟩
instance tZe191 : TZe Try.prog 191 [.nilFunc] := ⟨by kernel_rfl⟩
instance tBy191 : TBy Try.prog 191 8 := ⟨by kernel_rfl⟩
instance tAg192 : TAg Try.prog 192 false := ⟨by kernel_rfl⟩
instance tSize192 : TSize Try.prog 192 1 := ⟨by kernel_rfl⟩
instance tZe192 : TZe Try.prog 192 [.nilFunc] := ⟨by kernel_rfl⟩
instance tBy192 : TBy Try.prog 192 8 := ⟨by kernel_rfl⟩
instance tAg193 : TAg Try.prog 193 false := ⟨by kernel_rfl⟩
instance tSize193 : TSize Try.prog 193 1 := ⟨by kernel_rfl⟩
instance tZe193 : TZe Try.prog 193 [.nilFunc] := ⟨by kernel_rfl⟩
instance tBy193 : TBy Try.prog 193 8 := ⟨by kernel_rfl⟩
instance tAg194 : TAg Try.prog 194 false := ⟨by kernel_rfl⟩
instance tSize194 : TSize Try.prog 194 1 := ⟨by kernel_rfl⟩
instance tZe194 : TZe Try.prog 194 [.int .u32 0] := ⟨by kernel_rfl⟩
instance tBy194 : TBy Try.prog 194 4 := ⟨by kernel_rfl⟩
instance tAg195 : TAg Try.prog 195 false := ⟨by kernel_rfl⟩
instance tSize195 : TSize Try.prog 195 1 := ⟨by kernel_rfl⟩
instance tZe195 : TZe Try.prog 195 [.nilFunc] := ⟨by kernel_rfl⟩
instance tBy195 : TBy Try.prog 195 8 := ⟨by kernel_rfl⟩
instance tAg196 : TAg Try.prog 196 false := ⟨by kernel_rfl⟩
instance tSize196 : TSize Try.prog 196 1 := ⟨by kernel_rfl⟩
instance tZe196 : TZe Try.prog 196 [.int .u64 0] := ⟨by kernel_rfl⟩
instance tBy196 : TBy Try.prog 196 8 := ⟨by kernel_rfl⟩
instance tAg197 : TAg Try.prog 197 false := ⟨by kernel_rfl⟩
instance tSize197 : TSize Try.prog 197 1 := ⟨by kernel_rfl⟩
instance tZe197 : TZe Try.prog 197 [.nilFunc] := ⟨by kernel_rfl⟩
instance tBy197 : TBy Try.prog 197 8 := ⟨by kernel_rfl⟩
instance tAg198 : TAg Try.prog 198 false := ⟨by kernel_rfl⟩
instance tSize198 : TSize Try.prog 198 1 := ⟨by kernel_rfl⟩
instance tZe198 : TZe Try.prog 198 [.nilFunc] := ⟨by kernel_rfl⟩
instance tBy198 : TBy Try.prog 198 8 := ⟨by kernel_rfl⟩
instance tAg199 : TAg Try.prog 199 false := ⟨by kernel_rfl⟩
instance tSize199 : TSize Try.prog 199 1 := ⟨by kernel_rfl⟩
instance tZe199 : TZe Try.prog 199 [.nilFunc] := ⟨by kernel_rfl⟩
instance tBy199 : TBy Try.prog 199 8 := ⟨by kernel_rfl⟩
instance tAg200 : TAg Try.prog 200 false := ⟨by kernel_rfl⟩
instance tSize200 : TSize Try.prog 200 1 := ⟨by kernel_rfl⟩
instance tZe200 : TZe Try.prog 200 [.pointer none] := ⟨by kernel_rfl⟩
instance tBy200 : TBy Try.prog 200 8 := ⟨by kernel_rfl⟩
instance tAg201 : TAg Try.prog 201 false := ⟨by kernel_rfl⟩
instance tSize201 : TSize Try.prog 201 1 := ⟨by kernel_rfl⟩
instance tZe201 : TZe Try.prog 201 [.nilFunc] := ⟨by kernel_rfl⟩
instance tBy201 : TBy Try.prog 201 8 := ⟨by kernel_rfl⟩
instance tAg202 : TAg Try.prog 202 false := ⟨by kernel_rfl⟩
instance tSize202 : TSize Try.prog 202 1 := ⟨by kernel_rfl⟩
instance tZe202 : TZe Try.prog 202 [.pointer none] := ⟨by kernel_rfl⟩
instance tBy202 : TBy Try.prog 202 8 := ⟨by kernel_rfl⟩
instance tAg204 : TAg Try.prog 204 false := ⟨by kernel_rfl⟩
instance tSize204 : TSize Try.prog 204 1 := ⟨by kernel_rfl⟩
instance tZe204 : TZe Try.prog 204 [.nilFunc] := ⟨by kernel_rfl⟩
instance tBy204 : TBy Try.prog 204 8 := ⟨by kernel_rfl⟩
instance tAg212 : TAg Try.prog 212 false := ⟨by kernel_rfl⟩
instance tSize212 : TSize Try.prog 212 1 := ⟨by kernel_rfl⟩
instance tZe212 : TZe Try.prog 212 [.nilFunc] := ⟨by kernel_rfl⟩
instance tBy212 : TBy Try.prog 212 8 := ⟨by kernel_rfl⟩
instance tAg213 : TAg Try.prog 213 false := ⟨by kernel_rfl⟩
instance tSize213 : TSize Try.prog 213 1 := ⟨by kernel_rfl⟩
instance tZe213 : TZe Try.prog 213 [.pointer none] := ⟨by kernel_rfl⟩
instance tBy213 : TBy Try.prog 213 8 := ⟨by kernel_rfl⟩
instance tAg218 : TAg Try.prog 218 false := ⟨by kernel_rfl⟩
instance tSize218 : TSize Try.prog 218 1 := ⟨by kernel_rfl⟩
instance tZe218 : TZe Try.prog 218 [.pointer none] := ⟨by kernel_rfl⟩
instance tBy218 : TBy Try.prog 218 8 := ⟨by kernel_rfl⟩
end Go.Proofs.Ytfkppbkipbbmaaa

namespace Go.Proofs.Ytfkppbkipbbmaaa
set_option linter.unusedSimpArgs false
set_option linter.unusedVariables false
abbrev iA (n : Int) : AV := .prim (.int .i64 n)
abbrev bA (b : Bool) : AV := .prim (.bool b)
abbrev sA (l : List UInt8) : AV := .prim (strA l)
def fieldA (f : Field) : AV := .agg [sA f.name, iA f.bits, iA f.low]
abbrev fieldsA (o : Bool) (l : List Field) : AV := .lst o 41 3 (l.map fieldA)
def kindA (o : Bool) (k : Kind) : AV := .agg [sA k.name, fieldsA o k.fields]
abbrev kindsA (o o' : Bool) (l : List Kind) : AV := .lst o 44 2 (l.map (kindA o'))
abbrev intsA (o : Bool) (l : List Int) : AV := .lst o 3 1 (l.map iA)
instance {f : Field} : Frz (fieldA f) (fieldA f) := ⟨rfl⟩
instance {o : Bool} {k : Kind} : Frz (kindA o k) (kindA false k) := ⟨by unfold kindA; exact Frz.h⟩
def compA (o : Bool) (c : Comp) : AV := .agg [iA c.kind, intsA o c.vals]
abbrev compsA (o o' : Bool) (l : List Comp) : AV := .lst o 141 2 (l.map (compA o'))
def itemA (o : Bool) (x : Item) : AV := .agg [iA x.ent.n, iA x.ent.gen, compsA o o x.comps]
abbrev itemsA (o o' : Bool) (l : List Item) : AV := .lst o 36 3 (l.map (itemA o'))
def wdA (o : Bool) (w : Wd) : AV := .agg [kindsA o o w.kinds, intsA o w.gens, itemsA o o w.items]
def entA (e : Ent) : AV := .agg [iA e.n, iA e.gen]
def evtA (e : Evt) : AV := .agg [iA e.sys, iA e.ent.n, iA e.ent.gen, iA e.val]
instance {e : Ent} : Frz (entA e) (entA e) := ⟨rfl⟩
instance {e : Evt} : Frz (evtA e) (evtA e) := ⟨rfl⟩
instance {o : Bool} {k : Comp} : Frz (compA o k) (compA false k) := ⟨by unfold compA; exact Frz.h⟩
instance {o : Bool} {k : Item} : Frz (itemA o k) (itemA false k) := ⟨by unfold itemA; exact Frz.h⟩
instance {o : Bool} {k : Wd} : Frz (wdA o k) (wdA false k) := ⟨by unfold wdA; exact Frz.h⟩
theorem frzs_same {α : Type} (f : α → AV) (h : ∀ a, (f a).frz = f a) (l : List α) : AV.frzs (l.map f) = l.map f := by
  rw [frzs_map, List.map_map]
  exact List.map_congr_left fun a _ => h a
theorem intsA_frz (o : Bool) (l : List Int) : (intsA o l).frz = intsA false l := by
  show AV.lst false _ _ (AV.frzs (l.map iA)) = _
  rw [frzs_same _ fun _ => rfl]
end Go.Proofs.Ytfkppbkipbbmaaa

namespace Go.Proofs.Ytfkppbkipbbmaaa
set_option linter.unusedSimpArgs false
set_option linter.unusedVariables false

def lowc (c : UInt8) : Bool := decide (97 ≤ c) && decide (c ≤ 122)
def digc (c : UInt8) : Bool := decide (48 ≤ c) && decide (c ≤ 57)
def chOk (l : List UInt8) (j : Nat) : Bool := lowc (l.getD j 0) || (decide (0 < j) && digc (l.getD j 0))
def nameOk (l : List UInt8) : Bool := decide (0 < l.length) && decide (l.length ≤ 16) && (List.range l.length).all (chOk l)
def fieldErr (f : Field) : Int := if nameOk f.name && decide (1 ≤ f.bits) && decide (f.bits ≤ 32) && decide (-4294967296 ≤ f.low) && decide (f.low ≤ 4294967296) then 0 else 3
def fieldsErr : List Field → List Field → Int
  | _, [] => 0
  | pre, f :: fs => if fieldErr f ≠ 0 then fieldErr f else if pre.any (fun o => o.name == f.name) then 5 else fieldsErr (pre ++ [f]) fs
def oneErr (k : Kind) : Int := if nameOk k.name then (if 8 < k.fields.length then 2 else fieldsErr [] k.fields) else 3

theorem chOk_iff (l : List UInt8) (k : Nat) (hk : k < l.length) : chOk l k = true ↔ ((97 : Int) ≤ ((⟨l.toArray⟩ : ByteArray)[k]'hk).toNat ∧ (((⟨l.toArray⟩ : ByteArray)[k]'hk).toNat : Int) ≤ 122) ∨ (0 < k ∧ (48 : Int) ≤ ((⟨l.toArray⟩ : ByteArray)[k]'hk).toNat ∧ (((⟨l.toArray⟩ : ByteArray)[k]'hk).toNat : Int) ≤ 57) := by
  have e : (⟨l.toArray⟩ : ByteArray)[k]'hk = l[k] := rfl
  rw [e]
  simp only [chOk, lowc, digc, List.getD_eq_getElem?_getD, List.getElem?_eq_getElem hk, Option.getD_some, Bool.or_eq_true, Bool.and_eq_true, decide_eq_true_eq, UInt8.le_iff_toNat_le]
  have h1 : (97 : UInt8).toNat = 97 := rfl
  have h2 : (122 : UInt8).toNat = 122 := rfl
  have h3 : (48 : UInt8).toNat = 48 := rfl
  have h4 : (57 : UInt8).toNat = 57 := rfl
  rw [h1, h2, h3, h4]
  omega
def findKind (l : List Kind) (name : List UInt8) : Int :=
  match l.findIdx? (fun k => k.name == name) with
  | some i => i
  | none => -1
def kindsErr : List Kind → List Kind → Int
  | _, [] => 0
  | pre, k :: ks => if oneErr k ≠ 0 then oneErr k else if pre.any (fun o => o.name == k.name) then 5 else kindsErr (pre ++ [k]) ks
def checkErr (l : List Kind) : Int := if 16 < l.length then 2 else kindsErr [] l
def highOf (f : Field) : Int := if fieldErr f = 0 then f.low + (2 ^ f.bits.toNat - 1) else 0
def nearOf (f : Field) (v : Int) : Int := if fieldErr f = 0 then max f.low (min v (highOf f)) else 0
def fitOf (k : Kind) (vals : List Int) : List Int × Int :=
  if oneErr k ≠ 0 then ([], oneErr k) else if vals.length ≠ k.fields.length then ([], 1) else (List.zipWith nearOf k.fields vals, 0)
def holdsOf (k : Kind) (vals : List Int) : Bool := decide ((fitOf k vals).2 = 0) && decide ((fitOf k vals).1 = vals)

theorem findKind_none {l : List Kind} {name : List UInt8} (h : ∀ j (hj : j < l.length), l[j].name ≠ name) : findKind l name = -1 := by
  have : l.findIdx? (fun k => k.name == name) = none := by
    rw [List.findIdx?_eq_none_iff]
    intro x hx
    obtain ⟨j, hj, rfl⟩ := List.getElem_of_mem hx
    simpa using h j hj
  simp [findKind, this]
theorem findKind_some {l : List Kind} {name : List UInt8} {i : Nat} (hi : i < l.length) (e : l[i].name = name) (h : ∀ j (hj : j < i), (l[j]'(by omega)).name ≠ name) : findKind l name = i := by
  have : l.findIdx? (fun k => k.name == name) = some i := by
    rw [List.findIdx?_eq_some_iff_getElem]
    refine ⟨hi, by simpa using e, fun j hj => ?_⟩
    simpa using h j hj
  simp [findKind, this]
theorem kindsErr_bad {pre : List Kind} {k : Kind} {ks : List Kind} (h : oneErr k ≠ 0) : kindsErr pre (k :: ks) = oneErr k := by
  simp [kindsErr, h]
theorem kindsErr_twice {pre : List Kind} {k : Kind} {ks : List Kind} (h : oneErr k = 0) (hf : 0 ≤ findKind pre k.name) : kindsErr pre (k :: ks) = 5 := by
  have : pre.any (fun o => o.name == k.name) = true := by
    rcases hc : pre.any (fun o => o.name == k.name) with _ | _
    · exfalso
      rw [List.any_eq_false] at hc
      rw [findKind_none (fun j hj => by simpa using hc _ (List.getElem_mem hj))] at hf
      omega
    · rfl
  simp [kindsErr, h, this]
theorem kindsErr_next {pre : List Kind} {k : Kind} {ks : List Kind} (h : oneErr k = 0) (hf : findKind pre k.name < 0) : kindsErr pre (k :: ks) = kindsErr (pre ++ [k]) ks := by
  have : pre.any (fun o => o.name == k.name) = false := by
    rcases hc : pre.any (fun o => o.name == k.name) with _ | _
    · rfl
    · exfalso
      rw [List.any_eq_true] at hc
      obtain ⟨x, hx, e⟩ := hc
      unfold findKind at hf
      split at hf
      · omega
      · rename_i hn
        rw [List.findIdx?_eq_none_iff] at hn
        exact absurd e (by simpa using hn x hx)
  simp [kindsErr, h, this]
theorem kindsErr_at {l : List Kind} {i : Nat} (hi : i < l.length) : kindsErr (l.take i) (l.drop i) = kindsErr (l.take i) (l[i] :: l.drop (i + 1)) := by
  rw [List.drop_eq_getElem_cons hi]
theorem kindsErr_end {l : List Kind} {i : Nat} (hi : l.length ≤ i) : kindsErr (l.take i) (l.drop i) = 0 := by
  rw [List.drop_of_length_le hi]; rfl
theorem fieldErr_ok (f : Field) (h : nameOk f.name = true) (hb : 1 ≤ f.bits ∧ f.bits ≤ 32 ∧ -4294967296 ≤ f.low ∧ f.low ≤ 4294967296) : fieldErr f = 0 := by
  simp [fieldErr, h, hb]
theorem fieldErr_no (f : Field) (h : nameOk f.name = true → ¬ (1 ≤ f.bits ∧ f.bits ≤ 32 ∧ -4294967296 ≤ f.low ∧ f.low ≤ 4294967296)) : fieldErr f = 3 := by
  unfold fieldErr
  rw [if_neg]
  simp only [Bool.and_eq_true, decide_eq_true_eq]
  intro hc
  exact h hc.1.1.1.1 ⟨hc.1.1.1.2, hc.1.1.2, hc.1.2, hc.2⟩
theorem fieldErr_eq_zero (f : Field) : fieldErr f = 0 ↔ nameOk f.name = true ∧ 1 ≤ f.bits ∧ f.bits ≤ 32 ∧ -4294967296 ≤ f.low ∧ f.low ≤ 4294967296 := by
  constructor
  · intro h
    unfold fieldErr at h
    split at h
    · rename_i hc
      simpa [and_assoc] using hc
    · simp at h
  · rintro ⟨h, hb⟩
    exact fieldErr_ok f h hb
theorem fieldErr_cases (f : Field) : fieldErr f = 0 ∨ fieldErr f = 3 := by
  unfold fieldErr
  split <;> simp
theorem fieldsErr_bad {pre : List Field} {f : Field} {fs : List Field} (h : fieldErr f ≠ 0) : fieldsErr pre (f :: fs) = fieldErr f := by
  simp [fieldsErr, h]
theorem fieldsErr_twice {pre : List Field} {f : Field} {fs : List Field} (h : fieldErr f = 0) {j : Nat} (hj : j < pre.length) (e : pre[j].name = f.name) : fieldsErr pre (f :: fs) = 5 := by
  have : pre.any (fun o => o.name == f.name) = true := by
    rw [List.any_eq_true]
    exact ⟨pre[j], List.getElem_mem hj, by simp [e]⟩
  simp [fieldsErr, h, this]
theorem fieldsErr_next {pre : List Field} {f : Field} {fs : List Field} (h : fieldErr f = 0) (e : ∀ j (hj : j < pre.length), pre[j].name ≠ f.name) : fieldsErr pre (f :: fs) = fieldsErr (pre ++ [f]) fs := by
  have : pre.any (fun o => o.name == f.name) = false := by
    rw [List.any_eq_false]
    intro x hx
    obtain ⟨j, hj, rfl⟩ := List.getElem_of_mem hx
    simpa using e j hj
  simp [fieldsErr, h, this]
theorem fieldsErr_at {l : List Field} {i : Nat} (hi : i < l.length) : fieldsErr (l.take i) (l.drop i) = fieldsErr (l.take i) (l[i] :: l.drop (i + 1)) := by
  rw [List.drop_eq_getElem_cons hi]
theorem fieldsErr_end {l : List Field} {i : Nat} (hi : l.length ≤ i) : fieldsErr (l.take i) (l.drop i) = 0 := by
  rw [List.drop_of_length_le hi]; rfl
theorem nameOk_no (l : List UInt8) (j : Nat) (hj : j < l.length) (h : chOk l j = false) : nameOk l = false := by
  have : (List.range l.length).all (chOk l) = false := by
    rw [List.all_eq_false]
    exact ⟨j, List.mem_range.2 hj, by simp [h]⟩
  simp [nameOk, this]
theorem nameOk_yes (l : List UInt8) (h0 : 0 < l.length) (h1 : l.length ≤ 16) (h : ∀ j, j < l.length → chOk l j = true) : nameOk l = true := by
  have : (List.range l.length).all (chOk l) = true := by
    rw [List.all_eq_true]
    intro x hx
    exact h x (List.mem_range.1 hx)
  simp [nameOk, this, h0, h1]
theorem nameOk_long (l : List UInt8) (h : l.length = 0 ∨ 16 < l.length) : nameOk l = false := by
  rcases h with h | h
  · simp [nameOk, h]
  · simp [nameOk, show ¬ l.length ≤ 16 from by omega]

theorem pow_bits {b : Int} (h1 : 1 ≤ b) (h2 : b ≤ 32) : (2 : Int) ≤ 2 ^ b.toNat ∧ (2 : Int) ^ b.toNat ≤ 4294967296 := by
  obtain ⟨n, rfl⟩ : ∃ n : Nat, b = n := ⟨b.toNat, by omega⟩
  rw [Int.toNat_natCast]
  have h : n = 1 ∨ n = 2 ∨ n = 3 ∨ n = 4 ∨ n = 5 ∨ n = 6 ∨ n = 7 ∨ n = 8 ∨ n = 9 ∨ n = 10 ∨ n = 11 ∨ n = 12 ∨ n = 13 ∨ n = 14 ∨ n = 15 ∨ n = 16 ∨ n = 17 ∨ n = 18 ∨ n = 19 ∨ n = 20 ∨ n = 21 ∨ n = 22 ∨ n = 23 ∨ n = 24 ∨ n = 25 ∨ n = 26 ∨ n = 27 ∨ n = 28 ∨ n = 29 ∨ n = 30 ∨ n = 31 ∨ n = 32 := by omega
  rcases h with rfl | rfl | rfl | rfl | rfl | rfl | rfl | rfl | rfl | rfl | rfl | rfl | rfl | rfl | rfl | rfl | rfl | rfl | rfl | rfl | rfl | rfl | rfl | rfl | rfl | rfl | rfl | rfl | rfl | rfl | rfl | rfl <;> decide
theorem highOf_eq {f : Field} (h : fieldErr f = 0) : highOf f = f.low + (2 ^ f.bits.toNat - 1) := by simp [highOf, h]
theorem highOf_bd {f : Field} (h : fieldErr f = 0) : f.low < highOf f ∧ highOf f ≤ 8589934592 := by
  have hb := (fieldErr_eq_zero f).1 h
  have := pow_bits hb.2.1 hb.2.2.1
  rw [highOf_eq h]
  omega
theorem highOf_range (f : Field) : -4294967296 ≤ highOf f ∧ highOf f ≤ 8589934592 := by
  rcases fieldErr_cases f with h | h
  · have := highOf_bd h
    have hb := (fieldErr_eq_zero f).1 h
    omega
  · simp [highOf, h]
theorem nearOf_range (f : Field) (v : Int) : -4294967296 ≤ nearOf f v ∧ nearOf f v ≤ 8589934592 := by
  rcases fieldErr_cases f with h | h
  · have := highOf_bd h
    have hb := (fieldErr_eq_zero f).1 h
    simp only [nearOf, h, if_true]
    omega
  · simp [nearOf, h]
theorem fieldsErr_zero {pre l : List Field} (h : fieldsErr pre l = 0) : ∀ f ∈ l, fieldErr f = 0 := by
  induction l generalizing pre with
  | nil => intro f hf; cases hf
  | cons x l ih =>
    intro f hf
    simp only [fieldsErr] at h
    split at h
    · rename_i hx; exact absurd h hx
    · rename_i hx
      split at h
      · simp at h
      · rcases List.mem_cons.1 hf with rfl | hf
        · simpa using hx
        · exact ih h f hf
theorem oneErr_zero {k : Kind} (h : oneErr k = 0) : nameOk k.name = true ∧ k.fields.length ≤ 8 ∧ ∀ f ∈ k.fields, fieldErr f = 0 := by
  unfold oneErr at h
  split at h
  · rename_i h1
    split at h
    · simp at h
    · rename_i h2
      exact ⟨h1, by omega, fieldsErr_zero h⟩
  · simp at h
/-- What a made row holds when n places are filled, and one more. -/
theorem fill_set {l : List Int} {m n : Nat} (hm : l.length = m) (hn : n < m) : (l.take n ++ List.replicate (m - n) 0).set n (l[n]'(by omega)) = l.take (n + 1) ++ List.replicate (m - (n + 1)) 0 := by
  rw [show m - n = (m - (n + 1)) + 1 from by omega, List.replicate_succ, List.set_append_right _ _ (by simp; omega)]
  have e : n - (l.take n).length = 0 := by simp; omega
  rw [e, List.take_succ_eq_append_getElem (by omega), List.append_assoc]
  rfl
theorem fill_end {l : List Int} {m : Nat} (hm : l.length = m) : l.take m ++ List.replicate (m - m) 0 = l := by
  rw [List.take_of_length_le (by omega)]; simp
theorem fill_len {l : List Int} {m n : Nat} (hm : l.length = m) (hn : n ≤ m) : (l.take n ++ List.replicate (m - n) 0).length = m := by
  simp; omega
end Go.Proofs.Ytfkppbkipbbmaaa

namespace Go.Proofs.Ytfkppbkipbbmaaa
set_option linter.unusedVariables false
theorem find_ps (l : List Kind) (name : List UInt8) (hl : l.length ≤ 1099511627776) : PS Try.prog 89 [kindsA false false l, sA name] (iA (findKind l name)) := by
  refine Spec.of (nt := 20) (res := [.tmp 4]) Try.func89 rfl (by kernel_rfl) rfl rfl rfl fun Sf => ?_
  (repeat (first | refine AWP.loopR (fun i : Nat => ⟨[(1, sA name), (7, kindsA false false l), (8, iA (l.map (kindA false)).length), (9, iA i)], Sf⟩) (fun i => i ≤ l.length ∧ ∀ j (h : j < l.length), j < i → l[j].name ≠ name) (fun i => l.length - i) 0 ⟨by omega, by omega⟩ ⟨.cons rfl (.cons rfl (.cons rfl (.cons rfl .nil))), List.Sublist.refl _⟩ ?_ | refine WK ?_ | refine All.i fun X => ?_ | refine AllY.i fun Y => ?_))
  rintro i ⟨hi, hn⟩
  (repeat (first | refine WK ?_ | refine All.i fun X => ?_ | refine AllY.i fun Y => ?_))
  refine AWP.cond rfl (fun hb => ?_) (fun hb => ?_)
  · have h : i < l.length := by simpa using hb
    (repeat (first | (refine AOps.gN ?_; first | refine AOps.p (W.idxL rfl rfl rfl (map_at _ h)) rfl ?_) | refine WK ?_ | refine All.i fun X => ?_ | refine AllY.i fun Y => ?_))
    refine AWP.cond rfl (fun hc => ?_) (fun hc => ?_)
    · have hc : l[i].name = name := by simpa using hc
      (repeat (first | refine WK ?_ | refine All.i fun X => ?_ | refine AllY.i fun Y => ?_))
      (refine AWP.ret ?_; (repeat (first | refine inB_r ?_ | refine andThen_r ?_)); refine retQ_r ?_)
      refine Ends.plain rfl rfl (by exact Sub.f) ⟨?_, rfl⟩
      rw [findKind_some h hc fun j hj => hn j (by omega) hj]
    · have hc : l[i].name ≠ name := by simpa using hc
      (repeat (first | refine WK ?_ | refine All.i fun X => ?_ | refine AllY.i fun Y => ?_))
      refine ⟨i + 1, ⟨by omega, fun j hj hji => ?_⟩, by omega, .cons rfl (.cons rfl (.cons rfl (.cons rfl .nil))), by exact Sub.f⟩
      by_cases e : j = i
      · subst e; exact hc
      · exact hn j hj (by omega)
  · have h : ¬ i < l.length := by simpa using hb
    (repeat (first | refine WK ?_ | refine All.i fun X => ?_ | refine AllY.i fun Y => ?_))
    (refine AWP.ret ?_; (repeat (first | refine inB_r ?_ | refine andThen_r ?_)); refine retQ_r ?_)
    refine Ends.plain rfl rfl (by exact Sub.f) ⟨?_, rfl⟩
    rw [findKind_none fun j hj => hn j hj (by omega)]
end Go.Proofs.Ytfkppbkipbbmaaa

namespace Go.Proofs.Ytfkppbkipbbmaaa
set_option linter.unusedSimpArgs false
set_option linter.unusedVariables false
/-- Are the components those of an item, all kinds above 'last'? -/
def heldFrom (ks : List Kind) : Int → List Comp → Bool
  | _, [] => true
  | last, c :: l => match ks[c.kind.toNat]? with
    | some k => decide (last < c.kind) && decide (c.kind < ks.length) && holdsOf k c.vals && heldFrom ks c.kind l
    | none => false
def heldOf (ks : List Kind) (l : List Comp) : Bool := heldFrom ks (-1) l
theorem heldFrom_at {ks : List Kind} {l : List Comp} {i : Nat} {last : Int} {k : Kind} {c : Comp} (h : i < l.length) (hc : l[i] = c) (hk : ks[c.kind.toNat]? = some k) : heldFrom ks last (l.drop i) = (decide (last < c.kind) && decide (c.kind < ks.length) && holdsOf k c.vals && heldFrom ks c.kind (l.drop (i + 1))) := by
  rw [List.drop_eq_getElem_cons h, heldFrom, hc, hk]
theorem heldFrom_no {ks : List Kind} {l : List Comp} {i : Nat} {last : Int} {c : Comp} (h : i < l.length) (hc : l[i] = c) (hn : c.kind ≤ last ∨ (ks.length : Int) ≤ c.kind) : heldFrom ks last (l.drop i) = false := by
  rw [List.drop_eq_getElem_cons h, heldFrom, hc]
  split
  · rcases hn with hn | hn
    · rw [decide_eq_false (by omega)]; rfl
    · rw [decide_eq_false (p := c.kind < _) (by omega)]; simp
  · rfl
/-- Are the items those of a world, all slots above 'last'? -/
def itemsFrom (ks : List Kind) (gens : List Int) : Int → List Item → Bool
  | _, [] => true
  | last, it :: l => match gens[it.ent.n.toNat]? with
    | some g => decide (last < it.ent.n) && decide (it.ent.n < gens.length) && decide (it.ent.gen = g) && !decide (it.ent.gen = 1073741824) && heldOf ks it.comps && itemsFrom ks gens it.ent.n l
    | none => false
theorem itemsFrom_at {ks : List Kind} {gens : List Int} {l : List Item} {i : Nat} {last : Int} {g : Int} {it : Item} (h : i < l.length) (hc : l[i] = it) (hk : gens[it.ent.n.toNat]? = some g) : itemsFrom ks gens last (l.drop i) = (decide (last < it.ent.n) && decide (it.ent.n < gens.length) && decide (it.ent.gen = g) && !decide (it.ent.gen = 1073741824) && heldOf ks it.comps && itemsFrom ks gens it.ent.n (l.drop (i + 1))) := by
  rw [List.drop_eq_getElem_cons h, itemsFrom, hc, hk]
theorem itemsFrom_no {ks : List Kind} {gens : List Int} {l : List Item} {i : Nat} {last : Int} {it : Item} (h : i < l.length) (hc : l[i] = it) (hn : it.ent.n ≤ last ∨ (gens.length : Int) ≤ it.ent.n) : itemsFrom ks gens last (l.drop i) = false := by
  rw [List.drop_eq_getElem_cons h, itemsFrom, hc]
  split
  · rcases hn with hn | hn
    · rw [decide_eq_false (by omega)]; rfl
    · rw [decide_eq_false (p := it.ent.n < _) (by omega)]; simp
  · rfl
def gensOk (l : List Int) : Bool := l.all fun g => decide (0 ≤ g) && decide (g ≤ 1073741824)
/-- What world.Check returns. -/
def wdErr (w : Wd) : Int :=
  if checkErr w.kinds ≠ 0 then checkErr w.kinds
  else if 256 < w.gens.length ∨ w.gens.length < w.items.length then 2
  else if gensOk w.gens = false then 3
  else if itemsFrom w.kinds w.gens (-1) w.items = false then 3 else 0
end Go.Proofs.Ytfkppbkipbbmaaa

namespace Go.Proofs.Ytfkppbkipbbmaaa
set_option linter.unusedSimpArgs false
set_option linter.unusedVariables false
structure Move where
  act : Int
  kind : List UInt8
  field : List UInt8
  name : List UInt8
  value : Int
  new : Field
  whole : Kind
def findField (l : List Field) (name : List UInt8) : Int :=
  match l.findIdx? (fun f => f.name == name) with
  | some i => i
  | none => -1
theorem findField_none {l : List Field} {name : List UInt8} (h : ∀ j (hj : j < l.length), l[j].name ≠ name) : findField l name = -1 := by
  have : l.findIdx? (fun k => k.name == name) = none := by
    rw [List.findIdx?_eq_none_iff]
    intro x hx
    obtain ⟨j, hj, rfl⟩ := List.getElem_of_mem hx
    simpa using h j hj
  simp [findField, this]
theorem findField_some {l : List Field} {name : List UInt8} {i : Nat} (hi : i < l.length) (e : l[i].name = name) (h : ∀ j (hj : j < i), (l[j]'(by omega)).name ≠ name) : findField l name = i := by
  have : l.findIdx? (fun k => k.name == name) = some i := by
    rw [List.findIdx?_eq_some_iff_getElem]
    refine ⟨hi, by simpa using e, fun j hj => ?_⟩
    simpa using h j hj
  simp [findField, this]
theorem findField_at {l : List Field} {name : List UInt8} (h : 0 ≤ findField l name) : ∃ j, findField l name = (j : Nat) ∧ ∃ f, l[j]? = some f ∧ f.name = name := by
  cases hc : l.findIdx? (fun f => f.name == name) with
  | none => simp [findField, hc] at h
  | some i =>
    obtain ⟨h1, h2, _⟩ := List.findIdx?_eq_some_iff_getElem.1 hc
    exact ⟨i, by simp [findField, hc], _, List.getElem?_eq_getElem h1, by simpa using h2⟩
theorem findKind_at {l : List Kind} {name : List UInt8} (h : 0 ≤ findKind l name) : ∃ j, findKind l name = (j : Nat) ∧ ∃ f, l[j]? = some f ∧ f.name = name := by
  cases hc : l.findIdx? (fun f => f.name == name) with
  | none => simp [findKind, hc] at h
  | some i =>
    obtain ⟨h1, h2, _⟩ := List.findIdx?_eq_some_iff_getElem.1 hc
    exact ⟨i, by simp [findKind, hc], _, List.getElem?_eq_getElem h1, by simpa using h2⟩
/-- The indices of the kind and the field of a move, and the error. -/
def placeOf (ks : List Kind) (m : Move) : Int × Int × Int :=
  if m.act < 0 ∨ 6 < m.act then (0, 0, 1) else if m.act = 0 then (0, 0, 0) else if findKind ks m.kind < 0 then (0, 0, 4) else if m.act ≤ 3 then (findKind ks m.kind, 0, 0) else
  match ks[(findKind ks m.kind).toNat]? with
  | none => (0, 0, 4)
  | some k => if findField k.fields m.field < 0 then (0, 0, 4) else (findKind ks m.kind, findField k.fields m.field, 0)
/-- The kinds after a move at a place. -/
def rawOf (ks : List Kind) (m : Move) (i j : Nat) : List Kind :=
  if m.act = 0 then ks ++ [m.whole] else if m.act = 1 then ks.eraseIdx i else match ks[i]? with
  | none => ks
  | some k => if m.act = 2 then ks.set i ⟨m.name, k.fields⟩ else if m.act = 3 then ks.set i ⟨k.name, k.fields ++ [m.new]⟩ else if m.act = 4 then ks.set i ⟨k.name, k.fields.eraseIdx j⟩ else match k.fields[j]? with
    | none => ks
    | some f => if m.act = 5 then ks.set i ⟨k.name, k.fields.set j ⟨m.name, f.bits, f.low⟩⟩ else ks.set i ⟨k.name, k.fields.set j ⟨f.name, m.new.bits, m.new.low⟩⟩
def stepOf (ks : List Kind) (m : Move) : List Kind × Int :=
  if (placeOf ks m).2.2 ≠ 0 then ([], (placeOf ks m).2.2) else
  if checkErr (rawOf ks m (placeOf ks m).1.toNat (placeOf ks m).2.1.toNat) ≠ 0 then ([], checkErr (rawOf ks m (placeOf ks m).1.toNat (placeOf ks m).2.1.toNat)) else (rawOf ks m (placeOf ks m).1.toNat (placeOf ks m).2.1.toNat, 0)
def kindsFold : List Kind → List Move → List Kind × Int
  | ks, [] => (ks, 0)
  | ks, m :: ms => if (stepOf ks m).2 ≠ 0 then ([], (stepOf ks m).2) else kindsFold (stepOf ks m).1 ms
/-- What migrate.Kinds returns. -/
def kindsOf (ks : List Kind) (ms : List Move) : List Kind × Int :=
  if checkErr ks ≠ 0 then ([], checkErr ks) else if 100 < ms.length then ([], 2) else kindsFold ks ms
/-- A component after a move; ks: the new kinds. -/
def compOne (ks : List Kind) (m : Move) (i j : Int) (c : Comp) : Option Comp :=
  if m.act = 1 ∧ c.kind = i then none else
  if m.act = 1 ∧ i < c.kind then some ⟨c.kind - 1, c.vals⟩ else
  if c.kind = i then
    if m.act = 3 then some ⟨c.kind, c.vals ++ [nearOf m.new m.value]⟩ else
    if m.act = 4 then some ⟨c.kind, c.vals.eraseIdx j.toNat⟩ else
    if m.act = 6 then (match (ks[i.toNat]?).bind (·.fields[j.toNat]?), c.vals[j.toNat]? with
      | some f, some v => some ⟨c.kind, c.vals.set j.toNat (nearOf f v)⟩
      | _, _ => some c) else some c
  else some c
def compsAt (ks : List Kind) (m : Move) (i j : Int) (l : List Comp) : List Comp := l.filterMap (compOne ks m i j)
def worldStep (w : Wd) (m : Move) : Wd :=
  ⟨(stepOf w.kinds m).1, w.gens, w.items.map fun it => ⟨it.ent, compsAt (stepOf w.kinds m).1 m (placeOf w.kinds m).1 (placeOf w.kinds m).2.1 it.comps⟩⟩
/-- What migrate.World returns. -/
def worldOf (w : Wd) (ms : List Move) : Wd × Int :=
  if wdErr w ≠ 0 then (⟨[], [], []⟩, wdErr w) else if (kindsOf w.kinds ms).2 ≠ 0 then (⟨[], [], []⟩, (kindsOf w.kinds ms).2) else (ms.foldl worldStep w, 0)
end Go.Proofs.Ytfkppbkipbbmaaa

namespace Go.Proofs.Ytfkppbkipbbmaaa
set_option linter.unusedVariables false
def moveA (o : Bool) (m : Move) : AV := .agg [iA m.act, sA m.kind, sA m.field, sA m.name, iA m.value, sA m.new.name, iA m.new.bits, iA m.new.low, sA m.whole.name, fieldsA o m.whole.fields]
abbrev movesA (o o' : Bool) (l : List Move) : AV := .lst o 46 10 (l.map (moveA o'))
instance {o : Bool} {m : Move} : Frz (moveA o m) (moveA false m) := ⟨by unfold moveA; exact Frz.h⟩
end Go.Proofs.Ytfkppbkipbbmaaa

namespace Go.Proofs.Ytfkppbkipbbmaaa
set_option linter.unusedVariables false
theorem field_idx_ps (k : Kind) (name : List UInt8) (hl : k.fields.length ≤ 1099511627776) : PS Try.prog 90 [kindA false k, sA name] (iA (findField k.fields name)) := by
  obtain ⟨kn, fs⟩ := k
  dsimp only at hl ⊢
  refine Spec.of (nt := 21) (res := [.tmp 4]) Try.func90 rfl (by kernel_rfl) rfl rfl rfl fun Sf => ?_
  have hfm : (fs.map fieldA).length = fs.length := List.length_map _
  (repeat refine WF ?_); refine AWP.region ?_; (repeat (first | (refine AOps.gN ?_; first | (refine AOps.g_box ?_; refine AOps.goB ?_)) | refine WO ?_ | refine All.i fun X => ?_ | refine AllY.i fun Y => ?_)); refine AOps.nil ?_; (repeat refine WN ?_)
  (repeat (first | refine WK ?_ | refine All.i fun X => ?_ | refine AllY.i fun Y => ?_))
  refine AWP.lp (fun i : Nat => ⟨[(1, sA name), (8, fieldsA false fs), (9, iA (fs.map fieldA).length), (10, iA i)], Sf⟩) (fun i => i ≤ fs.length ∧ ∀ j (h : j < fs.length), j < i → fs[j].name ≠ name) (fun i => fs.length - i) 0 ⟨Nat.zero_le _, fun j h hj => absurd hj (by omega)⟩ ?_
  rintro i ⟨hi, he⟩
  (repeat (first | refine WK ?_ | refine All.i fun X => ?_ | refine AllY.i fun Y => ?_))
  refine AWP.cond rfl (fun hc => ?_) (fun hc => ?_)
  · have h : i < fs.length := by rw [decide_eq_true_eq, hfm] at hc; omega
    obtain ⟨⟨fn, fb, fl⟩, hf⟩ : ∃ f, fs[i] = f := ⟨_, rfl⟩
    have hat : (fs.map fieldA)[i]? = some (fieldA ⟨fn, fb, fl⟩) := by rw [List.getElem?_map, List.getElem?_eq_getElem h, hf]; rfl
    (repeat (first | refine WK ?_ | refine All.i fun V => ?_ | refine AllY.i fun Y => ?_))
    refine AWP.cond rfl (fun hd => ?_) (fun hd => ?_)
    · have hd : fn = name := by simpa using hd
      (repeat (first | refine WK ?_ | refine All.i fun X => ?_ | refine AllY.i fun Y => ?_))
      (refine AWP.ret ?_; (repeat (first | refine inB_r ?_ | refine andThen_r ?_)); refine retQ_r ?_); refine Ends.ps ?_
      rw [findField_some h (by rw [hf]; exact hd) fun j hj => he j (by omega) hj]
    · have hd : fn ≠ name := by simpa using hd
      (repeat (first | refine WK ?_ | refine All.i fun X => ?_ | refine AllY.i fun Y => ?_))
      refine lp_next (i + 1) ⟨h, fun j h1 h2 => ?_⟩
      by_cases e : j = i
      · subst e; rw [hf]; exact hd
      · exact he j h1 (by omega)
  · have h : ¬ i < fs.length := by rw [decide_eq_false_iff_not, hfm] at hc; omega
    (repeat (first | refine WK ?_ | refine All.i fun X => ?_ | refine AllY.i fun Y => ?_))
    (refine AWP.ret ?_; (repeat (first | refine inB_r ?_ | refine andThen_r ?_)); refine retQ_r ?_); refine Ends.ps ?_
    rw [findField_none fun j hj => he j hj (by omega)]
/-- The first i copied, the rest empty. -/
def kcpL (ks : List Kind) (i : Nat) : List AV := (ks.take i).map (kindA true) ++ List.replicate (ks.length - i) (.agg [sA [], .prim (.slice none 0 0)])
theorem kcpL_len (ks : List Kind) (i : Nat) (h : i ≤ ks.length) : (kcpL ks i).length = ks.length := by simp [kcpL]; omega
theorem kcpL_at {ks : List Kind} {i : Nat} (h : i < ks.length) : (kcpL ks i)[i]? = some (.agg [sA [], .prim (.slice none 0 0)]) := by
  unfold kcpL
  rw [List.getElem?_append_right (by simp; omega), List.getElem?_replicate, if_pos (by simp; omega)]
theorem kcpL_set {ks : List Kind} {i : Nat} (h : i < ks.length) : (kcpL ks i).set i (kindA true ks[i]) = kcpL ks (i + 1) := by
  unfold kcpL
  rw [List.set_append_right _ _ (by simp; omega), List.length_map, List.length_take, Nat.min_eq_left (by omega), Nat.sub_self]
  rw [show ks.length - i = (ks.length - (i + 1)) + 1 from by omega, List.replicate_succ, List.set_cons_zero]
  rw [List.take_succ_eq_append_getElem h, List.map_append, List.append_assoc]
  rfl
theorem kindCopy_ps (ks : List Kind) (hl : ks.length ≤ 1099511627776) (hf : ∀ k ∈ ks, k.fields.length ≤ 1099511627776) : PS Try.prog 61 [kindsA false false ks] (kindsA true true ks) := by
  refine Spec.of (nt := 27) (res := [.tmp 2]) Try.func61 rfl (by kernel_rfl) rfl rfl rfl fun Sf => ?_
  have hkm : (ks.map (kindA false)).length = ks.length := List.length_map _
  have hz0 : List.replicate (ks.map (kindA false)).length (.agg [sA [], .prim (.slice none 0 0)]) = kcpL ks 0 := by simp [kcpL]
  (repeat (first | (refine AOps.gN ?_; first | (refine AOps.g_make ?_; refine AOps.goM ((.agg [sA [], .prim (.slice none 0 0)])) fun K => ?_)) | refine WK ?_ | refine All.i fun X => ?_ | refine AllY.i fun Y => ?_))
  rw [hz0]
  refine AWP.lp2 (fun (i : Nat) (M : List AV) => ⟨[(3, .sl K 0 (ks.map (kindA false)).length), (9, kindsA false false ks), (10, iA (ks.map (kindA false)).length), (11, iA i)], (K, .row 44 2 M) :: Sf⟩) (fun i M => i ≤ ks.length ∧ M = kcpL ks i) (fun i _ => ks.length - i) 0 _ ⟨Nat.zero_le _, rfl⟩ ?_
  rintro i M ⟨hi, hM⟩
  (repeat (first | refine WK ?_ | refine All.i fun X => ?_ | refine AllY.i fun Y => ?_))
  refine AWP.cond rfl (fun hc => ?_) (fun hc => ?_)
  · have h : i < ks.length := by rw [decide_eq_true_eq, hkm] at hc; omega
    have hset := kcpL_set h
    have hMat : M[i]? = some (.agg [sA [], .prim (.slice none 0 0)]) := by rw [hM]; exact kcpL_at h
    have hMl : M.length = ks.length := by rw [hM]; exact kcpL_len ks i hi
    have hfl := hf _ (List.getElem_mem h)
    obtain ⟨⟨kn, fs⟩, hk⟩ : ∃ k, ks[i] = k := ⟨_, rfl⟩
    rw [hk] at hset hfl
    dsimp only at hfl
    have hat : (ks.map (kindA false))[i]? = some (kindA false ⟨kn, fs⟩) := by rw [List.getElem?_map, List.getElem?_eq_getElem h, hk]; rfl
    have hil : i < (ks.map (kindA false)).length := by omega
    have hfm : (fs.map fieldA).length = fs.length := List.length_map _
    (repeat (first | refine WK ?_ | refine All.i fun V => ?_ | refine AllY.i fun Y => ?_))
    refine AWP.rs fun Y => ?_
    (repeat refine WF ?_); refine AWP.region_run (by kernel_rfl) (by kernel_rfl) ?_; (repeat (first | (refine RGo.gN ?_; first | refine RGo.s (W.appN (by rw [hfm]; omega) (by rw [hfm]; unfold maxLen; omega) rfl rfl (by exact At.f)) rfl ?_) | (refine RGo.gQ ?_; first | refine RGo.s (W.appN (by rw [hfm]; omega) (by rw [hfm]; unfold maxLen; omega) rfl rfl (by exact At.f)) rfl ?_) | refine RK ?_ | refine RGo.nil (by kernel_rfl) ?_))
    (repeat refine WF ?_)
    have hMs : (M.set i (.agg [sA kn, .sl Y 0 (fs.map fieldA).length]))[i]? = some (.agg [sA kn, .sl Y 0 (fs.map fieldA).length]) := by rw [List.getElem?_set_self (by omega)]
    refine AWP.closeIn (X := Y) (Y := K) .here (.next (.next .here)) rfl rfl (Hos.at hMs (.agg (.tail (.head .here)))) ?_
    rw [List.set_set]
    (repeat (first | refine WK ?_ | refine All.i fun X => ?_ | refine AllY.i fun Y => ?_))
    refine lp_next2 (i + 1) _ ⟨h, ?_⟩
    rw [hM]; exact hset
  · have h : i = ks.length := by rw [decide_eq_false_iff_not, hkm] at hc; omega
    subst h
    have hfin : kcpL ks ks.length = ks.map (kindA true) := by simp [kcpL]
    rw [hfin] at hM
    subst hM
    (repeat (first | refine WK ?_ | refine All.i fun X => ?_ | refine AllY.i fun Y => ?_))
    (refine AWP.ret ?_; (repeat (first | refine inB_r ?_ | refine andThen_r ?_)); refine retQ_r ?_)
    exact ⟨[.sl K 0 (ks.map (kindA false)).length], [kindsA true true ks], _, [], .cons (.tmp rfl) rfl .nil, .cons (.cell (.sl (p := 0) .here (by simp))) .nil, by exact Sub.f, rfl, rfl⟩
end Go.Proofs.Ytfkppbkipbbmaaa

namespace Go.Proofs.Ytfkppbkipbbmaaa
set_option linter.unusedVariables false
theorem chOk_int (s : List UInt8) (i : Nat) : chOk s i = (decide ((97 : Int) ≤ (s.getD i 0).toNat) && decide (((s.getD i 0).toNat : Int) ≤ 122) || decide ((0 : Int) < i) && decide ((48 : Int) ≤ (s.getD i 0).toNat) && decide (((s.getD i 0).toNat : Int) ≤ 57)) := by
  have h : ∀ a b : UInt8, decide (a ≤ b) = decide ((a.toNat : Int) ≤ b.toNat) := fun a b => by simp [UInt8.le_iff_toNat_le]
  have h0 : decide (0 < i) = decide ((0 : Int) < i) := by simp
  simp only [chOk, lowc, digc, h, h0, Bool.and_assoc]
  rfl
theorem name_ps (s : List UInt8) : PS Try.prog 122 [sA s] (bA (nameOk s)) := by
  refine Spec.of (nt := 41) (res := [.tmp 2]) Try.func122 rfl (by kernel_rfl) rfl rfl rfl fun Sf => ?_
  (repeat (first | refine WK ?_ | refine All.i fun X => ?_ | refine AllY.i fun Y => ?_))
  refine AWP.cond rfl (fun hb => ?_) (fun hb => ?_)
  · (repeat (first | refine WK ?_ | refine All.i fun X => ?_ | refine AllY.i fun Y => ?_))
    (refine AWP.ret ?_; (repeat (first | refine inB_r ?_ | refine andThen_r ?_)); refine retQ_r ?_)
    refine Ends.plain rfl rfl (by exact Sub.f) ⟨?_, rfl⟩
    rw [nameOk_long s (by simp only [Bool.or_eq_true, decide_eq_true_eq] at hb; omega)]
  have hb1 : s.length ≠ 0 ∧ s.length ≤ 16 := by simp only [Bool.or_eq_false_iff, decide_eq_false_iff_not] at hb; omega
  (repeat (first | refine AWP.loopR (fun i : Nat => ⟨[(0, sA s), (14, iA s.length), (15, iA i)], Sf⟩) (fun i => i ≤ s.length ∧ ∀ j, j < i → chOk s j = true) (fun i => s.length - i) 0 ⟨by omega, by omega⟩ ⟨.cons rfl (.cons rfl (.cons rfl .nil)), List.Sublist.refl _⟩ ?_ | refine WK ?_ | refine All.i fun X => ?_ | refine AllY.i fun Y => ?_))
  rintro i ⟨hi, hn⟩
  (repeat (first | refine WK ?_ | refine All.i fun X => ?_ | refine AllY.i fun Y => ?_))
  refine AWP.cond rfl (fun hb => ?_) (fun hb => ?_)
  · have h : i < s.length := by simpa using hb
    (repeat (first | (refine AOps.gN ?_; first | refine AOps.p (W.idxStr rfl rfl rfl h) rfl ?_) | refine WK ?_ | refine All.i fun X => ?_ | refine AllY.i fun Y => ?_))
    refine AWP.cond rfl (fun hc => ?_) (fun hc => ?_)
    · (repeat (first | refine WK ?_ | refine All.i fun X => ?_ | refine AllY.i fun Y => ?_))
      (refine AWP.ret ?_; (repeat (first | refine inB_r ?_ | refine andThen_r ?_)); refine retQ_r ?_)
      refine Ends.plain rfl rfl (by exact Sub.f) ⟨?_, rfl⟩
      rw [← chOk_int] at hc
      rw [nameOk_no s i h (by simpa using hc)]
    · (repeat (first | refine WK ?_ | refine All.i fun X => ?_ | refine AllY.i fun Y => ?_))
      refine ⟨i + 1, ⟨by omega, fun j hj => ?_⟩, by omega, .cons rfl (.cons rfl (.cons rfl .nil)), by exact Sub.f⟩
      rw [← chOk_int] at hc
      by_cases e : j = i
      · subst e; simpa using hc
      · exact hn j (by omega)
  · have h : ¬ i < s.length := by simpa using hb
    (repeat (first | refine WK ?_ | refine All.i fun X => ?_ | refine AllY.i fun Y => ?_))
    (refine AWP.ret ?_; (repeat (first | refine inB_r ?_ | refine andThen_r ?_)); refine retQ_r ?_)
    refine Ends.plain rfl rfl (by exact Sub.f) ⟨?_, rfl⟩
    rw [nameOk_yes s (by omega) hb1.2 fun j hj => hn j (by omega)]
end Go.Proofs.Ytfkppbkipbbmaaa

namespace Go.Proofs.Ytfkppbkipbbmaaa
set_option linter.unusedVariables false
theorem field_ps (f : Field) : PS Try.prog 121 [fieldA f] (iA (fieldErr f)) := by
  refine Spec.of (nt := 27) (res := [.tmp 2]) Try.func121 rfl (by kernel_rfl) rfl rfl rfl fun Sf => ?_
  (repeat (first | (refine AOps.gN ?_; first | refine AOps.p (W.call1 rfl (name_ps _) rfl) rfl ?_) | refine WK ?_ | refine All.i fun X => ?_ | refine AllY.i fun Y => ?_))
  refine AWP.cond rfl (fun hb => ?_) (fun hb => ?_)
  · (repeat (first | refine WK ?_ | refine All.i fun X => ?_ | refine AllY.i fun Y => ?_))
    (refine AWP.ret ?_; (repeat (first | refine inB_r ?_ | refine andThen_r ?_)); refine retQ_r ?_)
    refine Ends.plain rfl rfl (by exact Sub.f) ⟨?_, rfl⟩
    rw [fieldErr_no f fun hn hk => ?_]
    simp only [hn, Bool.not_true, Bool.false_or, Bool.or_eq_true, decide_eq_true_eq] at hb
    omega
  · (repeat (first | refine WK ?_ | refine All.i fun X => ?_ | refine AllY.i fun Y => ?_))
    (refine AWP.ret ?_; (repeat (first | refine inB_r ?_ | refine andThen_r ?_)); refine retQ_r ?_)
    refine Ends.plain rfl rfl (by exact Sub.f) ⟨?_, rfl⟩
    simp only [Bool.or_eq_false_iff, Bool.not_eq_false', decide_eq_false_iff_not] at hb
    rw [fieldErr_ok f hb.1.1.1.1 (by omega)]
end Go.Proofs.Ytfkppbkipbbmaaa

namespace Go.Proofs.Ytfkppbkipbbmaaa
set_option linter.unusedVariables false
theorem one_ps (k : Kind) : PS Try.prog 97 [kindA false k] (iA (oneErr k)) := by
  refine Spec.of (nt := 45) (res := [.tmp 2]) Try.func97 rfl (by kernel_rfl) rfl rfl rfl fun Sf => ?_
  (repeat (first | (refine AOps.gN ?_; first | refine AOps.p (W.call1 rfl (name_ps _) rfl) rfl ?_ | (refine AOps.rs fun X1 => ?_; refine AOps.s (W.box rfl .here rfl) rfl ?_)) | refine WK ?_ | refine All.i fun X => ?_ | refine AllY.i fun Y => ?_))
  refine AWP.cond rfl (fun hb => ?_) (fun hb => ?_)
  · (repeat (first | refine WK ?_ | refine All.i fun X => ?_ | refine AllY.i fun Y => ?_))
    (refine AWP.ret ?_; (repeat (first | refine inB_r ?_ | refine andThen_r ?_)); refine retQ_r ?_)
    refine Ends.plain rfl rfl (by exact Sub.f) ⟨?_, rfl⟩
    have hb : nameOk k.name = false := by simpa using hb
    rw [show oneErr k = 3 from by simp [oneErr, hb]]
  have hn : nameOk k.name = true := by simpa using hb
  (repeat (first | refine WK ?_ | refine All.i fun X => ?_ | refine AllY.i fun Y => ?_))
  refine AWP.cond rfl (fun hb => ?_) (fun hb => ?_)
  · (repeat (first | refine WK ?_ | refine All.i fun X => ?_ | refine AllY.i fun Y => ?_))
    (refine AWP.ret ?_; (repeat (first | refine inB_r ?_ | refine andThen_r ?_)); refine retQ_r ?_)
    refine Ends.plain rfl rfl (by exact Sub.f) ⟨?_, rfl⟩
    have hb : 8 < k.fields.length := by rw [decide_eq_true_eq, List.length_map] at hb; omega
    rw [show oneErr k = 2 from by simp [oneErr, hn, hb]]
  have hl : k.fields.length ≤ 8 := by rw [decide_eq_false_iff_not, List.length_map] at hb; omega
  have e1 : oneErr k = fieldsErr [] k.fields := by simp [oneErr, hn]; omega
  (repeat (first | refine AWP.loopR (fun i : Nat => ⟨[(1, .ptr X1 0 0), (17, fieldsA false k.fields), (18, iA (k.fields.map fieldA).length), (19, iA i)], (X1, .row 44 2 [kindA false k]) :: Sf⟩) (fun i => i ≤ k.fields.length ∧ fieldsErr [] k.fields = fieldsErr (k.fields.take i) (k.fields.drop i)) (fun i => k.fields.length - i) 0 ⟨by omega, rfl⟩ ⟨.cons rfl (.cons rfl (.cons rfl (.cons rfl .nil))), by exact Sub.f⟩ ?_ | refine WK ?_ | refine All.i fun X => ?_ | refine AllY.i fun Y => ?_))
  rintro i ⟨hi, he⟩
  (repeat (first | refine WK ?_ | refine All.i fun X => ?_ | refine AllY.i fun Y => ?_))

  refine AWP.cond rfl (fun hb => ?_) (fun hb => ?_)
  · have h : i < k.fields.length := by simpa using hb
    (repeat (first | (refine AOps.gN ?_; first | refine AOps.p (W.idxL rfl rfl rfl (map_at _ h)) rfl ?_ | refine AOps.p (W.call1 rfl (field_ps _) rfl) rfl ?_) | refine WK ?_ | refine All.i fun X => ?_ | refine AllY.i fun Y => ?_))
    refine AWP.cond rfl (fun hc => ?_) (fun hc => ?_)
    · have hc : fieldErr k.fields[i] ≠ 0 := by simpa using hc
      (repeat (first | refine WK ?_ | refine All.i fun X => ?_ | refine AllY.i fun Y => ?_))
      (refine AWP.ret ?_; (repeat (first | refine inB_r ?_ | refine andThen_r ?_)); refine retQ_r ?_)
      refine Ends.plain rfl rfl (by exact Sub.f) ⟨?_, rfl⟩
      rw [e1, he, fieldsErr_at h, fieldsErr_bad hc]
      rfl
    have hc : fieldErr k.fields[i] = 0 := by simpa using hc
    have hmt : ((k.fields.map fieldA).take i).length = i := by simp; omega
    (repeat (first | (refine AOps.gN ?_; first | refine AOps.p (W.hiL rfl rfl rfl (by simp; omega)) rfl ?_) | refine AWP.loopR (fun j : Nat => ⟨[(1, .ptr X1 0 0), (17, fieldsA false k.fields), (18, iA (k.fields.map fieldA).length), (19, iA i), (3, iA i), (4, .ptr X 0 0), (32, .lst false 41 3 ((k.fields.map fieldA).take i)), (33, iA ((k.fields.map fieldA).take i).length), (34, iA j)], (X, .row 41 3 [fieldA k.fields[i]]) :: (X1, .row 44 2 [kindA false k]) :: Sf⟩) (fun j => j ≤ i ∧ ∀ q (hq : q < k.fields.length), q < j → k.fields[q].name ≠ k.fields[i].name) (fun j => i - j) 0 ⟨by omega, by omega⟩ ⟨.cons rfl (.cons rfl (.cons rfl (.cons rfl (.cons rfl (.cons rfl (.cons rfl (.cons rfl (.cons rfl .nil)))))))), by exact Sub.f⟩ ?_ | refine WK ?_ | refine All.i fun X => ?_ | refine AllY.i fun Y => ?_))
    rintro j ⟨hj, hne⟩
    (repeat (first | refine WK ?_ | refine All.i fun X => ?_ | refine AllY.i fun Y => ?_))
    refine AWP.cond rfl (fun hd => ?_) (fun hd => ?_)
    · have hd : j < i := by rw [hmt] at hd; simpa using hd
      have hat : ((k.fields.map fieldA).take i)[j]? = some (fieldA (k.fields[j]'(by omega))) := by rw [List.getElem?_take_of_lt hd]; exact map_at _ _
      (repeat (first | (refine AOps.gN ?_; first | refine AOps.p (W.idxL rfl rfl rfl hat) rfl ?_) | refine WK ?_ | refine All.i fun X => ?_ | refine AllY.i fun Y => ?_))
      refine AWP.cond rfl (fun hq => ?_) (fun hq => ?_)
      · have hq : (k.fields[j]'(by omega)).name = k.fields[i].name := by simpa using hq
        (repeat (first | refine WK ?_ | refine All.i fun X => ?_ | refine AllY.i fun Y => ?_))
        (refine AWP.ret ?_; (repeat (first | refine inB_r ?_ | refine andThen_r ?_)); refine retQ_r ?_)
        refine Ends.plain rfl rfl (by exact Sub.f) ⟨?_, rfl⟩
        rw [e1, he, fieldsErr_at h, fieldsErr_twice hc (j := j) (by simp; omega) (by simpa using hq)]
      · have hq : (k.fields[j]'(by omega)).name ≠ k.fields[i].name := by simpa using hq
        (repeat (first | refine WK ?_ | refine All.i fun X => ?_ | refine AllY.i fun Y => ?_))
        refine ⟨j + 1, ⟨by omega, fun q hq1 hq2 => ?_⟩, by omega, .cons rfl (.cons rfl (.cons rfl (.cons rfl (.cons rfl (.cons rfl (.cons rfl (.cons rfl (.cons rfl .nil)))))))), by exact Sub.f⟩
        by_cases e : q = j
        · subst e; exact hq
        · exact hne q hq1 (by omega)
    · have hd : ¬ j < i := by rw [hmt] at hd; simpa using hd
      (repeat (first | refine WK ?_ | refine All.i fun X => ?_ | refine AllY.i fun Y => ?_))
      refine ⟨i + 1, ⟨by omega, ?_⟩, by omega, .cons rfl (.cons rfl (.cons rfl (.cons rfl .nil))), by exact Sub.f⟩
      rw [he, fieldsErr_at h, fieldsErr_next hc fun q hq => ?_, List.take_add_one, List.getElem?_eq_getElem h]
      · rfl
      · simp only [List.getElem_take]
        exact hne q (by simp at hq; omega) (by simp at hq; omega)
  · have h : ¬ i < k.fields.length := by simpa using hb
    (repeat (first | refine WK ?_ | refine All.i fun X => ?_ | refine AllY.i fun Y => ?_))
    (refine AWP.ret ?_; (repeat (first | refine inB_r ?_ | refine andThen_r ?_)); refine retQ_r ?_)
    refine Ends.plain rfl rfl (by exact Sub.f) ⟨?_, rfl⟩
    rw [e1, he, fieldsErr_end (by omega)]
end Go.Proofs.Ytfkppbkipbbmaaa

namespace Go.Proofs.Ytfkppbkipbbmaaa
set_option linter.unusedVariables false
theorem check_ps (l : List Kind) : PS Try.prog 60 [kindsA false false l] (iA (checkErr l)) := by
  refine Spec.of (nt := 29) (res := [.tmp 2]) Try.func60 rfl (by kernel_rfl) rfl rfl rfl fun Sf => ?_
  (repeat (first | refine WK ?_ | refine All.i fun X => ?_ | refine AllY.i fun Y => ?_))
  refine AWP.cond rfl (fun hb => ?_) (fun hb => ?_)
  · (repeat (first | refine WK ?_ | refine All.i fun X => ?_ | refine AllY.i fun Y => ?_))
    (refine AWP.ret ?_; (repeat (first | refine inB_r ?_ | refine andThen_r ?_)); refine retQ_r ?_)
    refine Ends.plain rfl rfl (by exact Sub.f) ⟨?_, rfl⟩
    have hb : 16 < l.length := by rw [decide_eq_true_eq, List.length_map] at hb; omega
    rw [show checkErr l = 2 from by simp [checkErr, hb]]
  have hl : l.length ≤ 16 := by rw [decide_eq_false_iff_not, List.length_map] at hb; omega
  have e1 : checkErr l = kindsErr [] l := by simp [checkErr]; omega
  (repeat (first | refine AWP.loopR (fun i : Nat => ⟨[(0, kindsA false false l), (9, kindsA false false l), (10, iA (l.map (kindA false)).length), (11, iA i)], Sf⟩) (fun i => i ≤ l.length ∧ kindsErr [] l = kindsErr (l.take i) (l.drop i)) (fun i => l.length - i) 0 ⟨by omega, rfl⟩ ⟨.cons rfl (.cons rfl (.cons rfl (.cons rfl .nil))), by exact Sub.f⟩ ?_ | refine WK ?_ | refine All.i fun X => ?_ | refine AllY.i fun Y => ?_))
  rintro i ⟨hi, he⟩
  (repeat (first | refine WK ?_ | refine All.i fun X => ?_ | refine AllY.i fun Y => ?_))
  refine AWP.cond rfl (fun hb => ?_) (fun hb => ?_)
  · have h : i < l.length := by simpa using hb
    (repeat (first | (refine AOps.gN ?_; first | refine AOps.p (W.idxL rfl rfl rfl (map_at _ h)) rfl ?_ | refine AOps.p (W.call1 rfl (one_ps _) rfl) rfl ?_) | refine WK ?_ | refine All.i fun X => ?_ | refine AllY.i fun Y => ?_))
    refine AWP.cond rfl (fun hc => ?_) (fun hc => ?_)
    · have hc : oneErr l[i] ≠ 0 := by simpa using hc
      (repeat (first | refine WK ?_ | refine All.i fun X => ?_ | refine AllY.i fun Y => ?_))
      (refine AWP.ret ?_; (repeat (first | refine inB_r ?_ | refine andThen_r ?_)); refine retQ_r ?_)
      refine Ends.plain rfl rfl (by exact Sub.f) ⟨?_, rfl⟩
      rw [e1, he, kindsErr_at h, kindsErr_bad hc]
      rfl
    have hc : oneErr l[i] = 0 := by simpa using hc
    have hf : PS Try.prog 89 [.lst false 44 2 ((l.map (kindA false)).take i), sA l[i].name] (iA (findKind (l.take i) l[i].name)) := by
      have := find_ps (l.take i) l[i].name (by simp; omega)
      simpa only [kindsA, List.map_take] using this
    (repeat (first | refine WK ?_ | refine All.i fun X => ?_ | refine AllY.i fun Y => ?_))
    (repeat refine WF ?_); refine AWP.region_run (by kernel_rfl) (by kernel_rfl) ?_; (repeat (first | (refine RGo.gN ?_; first | refine RGo.p (W.hiL rfl rfl rfl (by simp; omega)) rfl ?_ | refine RGo.p (W.call2 rfl rfl hf rfl) rfl ?_) | (refine RGo.gQ ?_; first | refine RGo.p (W.hiL rfl rfl rfl (by simp; omega)) rfl ?_ | refine RGo.p (W.call2 rfl rfl hf rfl) rfl ?_) | refine RK ?_ | refine RGo.nil (by kernel_rfl) ?_))
    (repeat (first | refine WK ?_ | refine All.i fun X => ?_ | refine AllY.i fun Y => ?_))
    refine AWP.cond rfl (fun hd => ?_) (fun hd => ?_)
    · have hd : 0 ≤ findKind (l.take i) l[i].name := by simpa using hd
      (repeat (first | refine WK ?_ | refine All.i fun X => ?_ | refine AllY.i fun Y => ?_))
      (refine AWP.ret ?_; (repeat (first | refine inB_r ?_ | refine andThen_r ?_)); refine retQ_r ?_)
      refine Ends.plain rfl rfl (by exact Sub.f) ⟨?_, rfl⟩
      rw [e1, he, kindsErr_at h, kindsErr_twice hc hd]
    · have hd : findKind (l.take i) l[i].name < 0 := by simpa using hd
      (repeat (first | refine WK ?_ | refine All.i fun X => ?_ | refine AllY.i fun Y => ?_))
      refine ⟨i + 1, ⟨by omega, ?_⟩, by omega, .cons rfl (.cons rfl (.cons rfl (.cons rfl .nil))), by exact Sub.f⟩
      rw [he, kindsErr_at h, kindsErr_next hc hd, List.take_add_one, List.getElem?_eq_getElem h]
      rfl
  · have h : ¬ i < l.length := by simpa using hb
    (repeat (first | refine WK ?_ | refine All.i fun X => ?_ | refine AllY.i fun Y => ?_))
    (refine AWP.ret ?_; (repeat (first | refine inB_r ?_ | refine andThen_r ?_)); refine retQ_r ?_)
    refine Ends.plain rfl rfl (by exact Sub.f) ⟨?_, rfl⟩
    rw [e1, he, kindsErr_end (by omega)]
end Go.Proofs.Ytfkppbkipbbmaaa

namespace Go.Proofs.Ytfkppbkipbbmaaa
set_option linter.unusedVariables false
theorem eraseIdx_parts {α : Type} {l : List α} {i : Nat} (h : i < l.length) (z : List α) : (l.take i ++ (l.drop (i + 1)).take (l.length - (i + 1)) ++ z).take (i + (l.length - (i + 1))) = l.eraseIdx i := by
  rw [List.take_of_length_le (l := l.drop (i + 1)) (by rw [List.length_drop]; omega), List.eraseIdx_eq_take_drop_succ]
  rw [List.take_append_of_le_length (by simp; omega), List.take_of_length_le (by simp; omega)]
end Go.Proofs.Ytfkppbkipbbmaaa

namespace Go.Proofs.Ytfkppbkipbbmaaa
set_option linter.unusedVariables false
theorem deleteK_sp (X n i : Nat) (l : List AV) (hn : n = l.length) (hi : i < n) (hl : n ≤ 1099511627776) (hfr : FreeL l) (hw : ∀ e ∈ l, e.width = 2) :
    Spec Try.prog 91 [.sl X 0 n, iA i, iA ((i : Int) + 1)] [(X, .row 44 2 l)] fun r S' => r = .lst true 44 2 (l.eraseIdx i) ∧ S' = [] := by
  subst hn
  refine Spec.of (nt := 33) (res := [.tmp 6]) Try.func91 rfl (by kernel_rfl) rfl rfl rfl fun Sf => ?_
  have h1 : ((i : Int) + 1) = ((i + 1 : Nat) : Int) := by omega
  (repeat refine WF ?_); refine AWP.region ?_; (repeat (first | refine WO ?_ | refine All.i fun X => ?_ | refine AllY.i fun Y => ?_)); refine AOps.nil ?_; (repeat refine WN ?_)
  (repeat refine WF ?_); refine AWP.region ?_; (repeat (first | (refine AOps.gN ?_; first | refine AOps.p (W.slice3 (lo := i) (hi := i + 1) (mx := l.length) rfl rfl rfl rfl (by exact At.f) rfl h1 rfl (by omega) (by omega) (Nat.le_refl _)) rfl ?_) | refine WO ?_ | refine All.i fun X => ?_ | refine AllY.i fun Y => ?_)); refine AOps.nil ?_; (repeat refine WN ?_)
  (repeat refine WF ?_); refine AWP.region ?_; (repeat (first | refine WO ?_ | refine All.i fun X => ?_ | refine AllY.i fun Y => ?_)); refine AOps.nil ?_; (repeat refine WN ?_)
  refine AWP.cond_f rfl (decide_eq_false (by omega)) ?_
  (repeat refine WF ?_); refine AWP.region ?_; (repeat (first | refine WO ?_ | refine All.i fun X => ?_ | refine AllY.i fun Y => ?_)); refine AOps.nil ?_; (repeat refine WN ?_)
  have hel : (l.eraseIdx i).length = l.length - 1 := List.length_eraseIdx_of_lt hi
  rcases Nat.lt_or_ge (i + 1) l.length with hj | hj
  · have hp := eraseIdx_parts hi
    (repeat refine WF ?_); refine AWP.region_run (by kernel_rfl) (by kernel_rfl) ?_; (repeat (first | (refine RGo.gN ?_; first | refine RGo.p (W.hi rfl rfl (by exact At.f) rfl (by omega)) rfl ?_ | refine RGo.p (W.slice_lo (lo := i + 1) rfl rfl (by exact At.f) h1 (by omega)) rfl ?_ | refine RGo.s (W.appS (l.length - (i + 1)) (by omega) (by omega) (by omega) hfr hw rfl rfl (by exact At.f)) rfl ?_) | (refine RGo.gQ ?_; first | refine RGo.p (W.hi rfl rfl (by exact At.f) rfl (by omega)) rfl ?_ | refine RGo.p (W.slice_lo (lo := i + 1) rfl rfl (by exact At.f) h1 (by omega)) rfl ?_ | refine RGo.s (W.appS (l.length - (i + 1)) (by omega) (by omega) (by omega) hfr hw rfl rfl (by exact At.f)) rfl ?_) | refine RK ?_ | refine RGo.nil (by kernel_rfl) ?_))
    rw [Nat.zero_add]
    have hln : i + (l.length - (i + 1)) = l.length - 1 := by omega
    have hLl : (l.take i ++ (l.drop (i + 1)).take (l.length - (i + 1)) ++ l.drop (i + (l.length - (i + 1)))).length = l.length := by simp only [List.length_append, List.length_take, List.length_drop]; omega
    have hLp := hp (l.drop (i + (l.length - (i + 1))))
    obtain ⟨L', hL'⟩ : ∃ L', l.take i ++ (l.drop (i + 1)).take (l.length - (i + 1)) ++ l.drop (i + (l.length - (i + 1))) = L' := ⟨_, rfl⟩
    rw [hL'] at hLl hLp ⊢
    have key : ∀ Z D, ((L'.take (i + (l.length - (i + 1))) ++ Z) ++ D).take (i + (l.length - (i + 1))) = l.eraseIdx i := fun Z D => by
      rw [List.append_assoc, List.take_append_of_le_length (by rw [List.length_take]; omega), List.take_take, Nat.min_self, hLp]
    (repeat refine WF ?_); refine AWP.region ?_; (repeat (first | (refine AOps.gN ?_; first | refine AOps.p (W.lohi (lo := i + (l.length - (i + 1))) (hi := l.length) rfl rfl rfl (by exact At.f) rfl rfl (by omega) (by omega)) rfl ?_ | refine AOps.s (W.clear rfl (by exact At.f) (by first | exact .inl rfl | exact .inr rfl) rfl (by omega)) rfl ?_) | refine WO ?_ | refine All.i fun X => ?_ | refine AllY.i fun Y => ?_)); refine AOps.nil ?_; (repeat refine WN ?_)
    (repeat refine WF ?_); refine AWP.region ?_; (repeat (first | refine WO ?_ | refine All.i fun X => ?_ | refine AllY.i fun Y => ?_)); refine AOps.nil ?_; (repeat refine WN ?_)
    refine AWP.shrink (X := X) (i + (l.length - (i + 1))) ?_
    rw [Nat.zero_add, key]
    (refine AWP.ret ?_; (repeat (first | refine inB_r ?_ | refine andThen_r ?_)); refine retQ_r ?_)
    exact ⟨[.sl X 0 (i + (l.length - (i + 1)))], [.lst true 44 2 (l.eraseIdx i)], _, [], .cons (.tmp rfl) rfl .nil, .cons (.cell (.sl (p := 0) .here (by rw [hel]; omega))) .nil, by exact Sub.f, rfl, rfl⟩
  · have hie : i = l.length - 1 := by omega
    have hl0 : l.length - (i + 1) = 0 := by omega
    have hle : l.eraseIdx i = l.take i := by rw [List.eraseIdx_eq_take_drop_succ, List.drop_of_length_le (by omega), List.append_nil]
    have key : ∀ Z D, ((l.take i ++ Z) ++ D).take i = l.eraseIdx i := fun Z D => by
      rw [List.append_assoc, List.take_append_of_le_length (by rw [List.length_take]; omega), List.take_take, Nat.min_self, hle]
    (repeat refine WF ?_); refine AWP.region_run (by kernel_rfl) (by kernel_rfl) ?_; (repeat (first | (refine RGo.gN ?_; first | refine RGo.p (W.hi rfl rfl (by exact At.f) rfl (by omega)) rfl ?_ | (refine RGo.p (W.slice_lo (lo := i + 1) rfl rfl (by exact At.f) h1 (by omega)) rfl ?_; rw [hl0]) | refine RGo.p (W.app0 rfl rfl (by exact At.f)) rfl ?_) | (refine RGo.gQ ?_; first | refine RGo.p (W.hi rfl rfl (by exact At.f) rfl (by omega)) rfl ?_ | (refine RGo.p (W.slice_lo (lo := i + 1) rfl rfl (by exact At.f) h1 (by omega)) rfl ?_; rw [hl0]) | refine RGo.p (W.app0 rfl rfl (by exact At.f)) rfl ?_) | refine RK ?_ | refine RGo.nil (by kernel_rfl) ?_))
    (repeat refine WF ?_); refine AWP.region ?_; (repeat (first | (refine AOps.gN ?_; first | refine AOps.p (W.lohi (lo := i) (hi := l.length) rfl rfl rfl (by exact At.f) rfl rfl (by omega) (by omega)) rfl ?_ | refine AOps.s (W.clear rfl (by exact At.f) (by first | exact .inl rfl | exact .inr rfl) rfl (by omega)) rfl ?_) | refine WO ?_ | refine All.i fun X => ?_ | refine AllY.i fun Y => ?_)); refine AOps.nil ?_; (repeat refine WN ?_)
    (repeat refine WF ?_); refine AWP.region ?_; (repeat (first | refine WO ?_ | refine All.i fun X => ?_ | refine AllY.i fun Y => ?_)); refine AOps.nil ?_; (repeat refine WN ?_)
    refine AWP.shrink (X := X) i ?_
    simp only [Nat.zero_add]
    rw [key]
    (refine AWP.ret ?_; (repeat (first | refine inB_r ?_ | refine andThen_r ?_)); refine retQ_r ?_)
    exact ⟨[.sl X 0 i], [.lst true 44 2 (l.eraseIdx i)], _, [], .cons (.tmp rfl) rfl .nil, .cons (.cell (.sl (p := 0) .here (by rw [hel]; omega))) .nil, by exact Sub.f, rfl, rfl⟩
end Go.Proofs.Ytfkppbkipbbmaaa

namespace Go.Proofs.Ytfkppbkipbbmaaa
set_option linter.unusedVariables false
theorem deleteF_sp (X n i : Nat) (l : List AV) (hn : n = l.length) (hi : i < n) (hl : n ≤ 1099511627776) (hfr : FreeL l) (hw : ∀ e ∈ l, e.width = 3) :
    Spec Try.prog 92 [.sl X 0 n, iA i, iA ((i : Int) + 1)] [(X, .row 41 3 l)] fun r S' => r = .lst true 41 3 (l.eraseIdx i) ∧ S' = [] := by
  subst hn
  refine Spec.of (nt := 33) (res := [.tmp 6]) Try.func92 rfl (by kernel_rfl) rfl rfl rfl fun Sf => ?_
  have h1 : ((i : Int) + 1) = ((i + 1 : Nat) : Int) := by omega
  (repeat refine WF ?_); refine AWP.region ?_; (repeat (first | refine WO ?_ | refine All.i fun X => ?_ | refine AllY.i fun Y => ?_)); refine AOps.nil ?_; (repeat refine WN ?_)
  (repeat refine WF ?_); refine AWP.region ?_; (repeat (first | (refine AOps.gN ?_; first | refine AOps.p (W.slice3 (lo := i) (hi := i + 1) (mx := l.length) rfl rfl rfl rfl (by exact At.f) rfl h1 rfl (by omega) (by omega) (Nat.le_refl _)) rfl ?_) | refine WO ?_ | refine All.i fun X => ?_ | refine AllY.i fun Y => ?_)); refine AOps.nil ?_; (repeat refine WN ?_)
  (repeat refine WF ?_); refine AWP.region ?_; (repeat (first | refine WO ?_ | refine All.i fun X => ?_ | refine AllY.i fun Y => ?_)); refine AOps.nil ?_; (repeat refine WN ?_)
  refine AWP.cond_f rfl (decide_eq_false (by omega)) ?_
  (repeat refine WF ?_); refine AWP.region ?_; (repeat (first | refine WO ?_ | refine All.i fun X => ?_ | refine AllY.i fun Y => ?_)); refine AOps.nil ?_; (repeat refine WN ?_)
  have hel : (l.eraseIdx i).length = l.length - 1 := List.length_eraseIdx_of_lt hi
  rcases Nat.lt_or_ge (i + 1) l.length with hj | hj
  · have hp := eraseIdx_parts hi
    (repeat refine WF ?_); refine AWP.region_run (by kernel_rfl) (by kernel_rfl) ?_; (repeat (first | (refine RGo.gN ?_; first | refine RGo.p (W.hi rfl rfl (by exact At.f) rfl (by omega)) rfl ?_ | refine RGo.p (W.slice_lo (lo := i + 1) rfl rfl (by exact At.f) h1 (by omega)) rfl ?_ | refine RGo.s (W.appS (l.length - (i + 1)) (by omega) (by omega) (by omega) hfr hw rfl rfl (by exact At.f)) rfl ?_) | (refine RGo.gQ ?_; first | refine RGo.p (W.hi rfl rfl (by exact At.f) rfl (by omega)) rfl ?_ | refine RGo.p (W.slice_lo (lo := i + 1) rfl rfl (by exact At.f) h1 (by omega)) rfl ?_ | refine RGo.s (W.appS (l.length - (i + 1)) (by omega) (by omega) (by omega) hfr hw rfl rfl (by exact At.f)) rfl ?_) | refine RK ?_ | refine RGo.nil (by kernel_rfl) ?_))
    rw [Nat.zero_add]
    have hln : i + (l.length - (i + 1)) = l.length - 1 := by omega
    have hLl : (l.take i ++ (l.drop (i + 1)).take (l.length - (i + 1)) ++ l.drop (i + (l.length - (i + 1)))).length = l.length := by simp only [List.length_append, List.length_take, List.length_drop]; omega
    have hLp := hp (l.drop (i + (l.length - (i + 1))))
    obtain ⟨L', hL'⟩ : ∃ L', l.take i ++ (l.drop (i + 1)).take (l.length - (i + 1)) ++ l.drop (i + (l.length - (i + 1))) = L' := ⟨_, rfl⟩
    rw [hL'] at hLl hLp ⊢
    have key : ∀ Z D, ((L'.take (i + (l.length - (i + 1))) ++ Z) ++ D).take (i + (l.length - (i + 1))) = l.eraseIdx i := fun Z D => by
      rw [List.append_assoc, List.take_append_of_le_length (by rw [List.length_take]; omega), List.take_take, Nat.min_self, hLp]
    (repeat refine WF ?_); refine AWP.region ?_; (repeat (first | (refine AOps.gN ?_; first | refine AOps.p (W.lohi (lo := i + (l.length - (i + 1))) (hi := l.length) rfl rfl rfl (by exact At.f) rfl rfl (by omega) (by omega)) rfl ?_ | refine AOps.s (W.clear rfl (by exact At.f) (by first | exact .inl rfl | exact .inr rfl) rfl (by omega)) rfl ?_) | refine WO ?_ | refine All.i fun X => ?_ | refine AllY.i fun Y => ?_)); refine AOps.nil ?_; (repeat refine WN ?_)
    (repeat refine WF ?_); refine AWP.region ?_; (repeat (first | refine WO ?_ | refine All.i fun X => ?_ | refine AllY.i fun Y => ?_)); refine AOps.nil ?_; (repeat refine WN ?_)
    refine AWP.shrink (X := X) (i + (l.length - (i + 1))) ?_
    rw [Nat.zero_add, key]
    (refine AWP.ret ?_; (repeat (first | refine inB_r ?_ | refine andThen_r ?_)); refine retQ_r ?_)
    exact ⟨[.sl X 0 (i + (l.length - (i + 1)))], [.lst true 41 3 (l.eraseIdx i)], _, [], .cons (.tmp rfl) rfl .nil, .cons (.cell (.sl (p := 0) .here (by rw [hel]; omega))) .nil, by exact Sub.f, rfl, rfl⟩
  · have hie : i = l.length - 1 := by omega
    have hl0 : l.length - (i + 1) = 0 := by omega
    have hle : l.eraseIdx i = l.take i := by rw [List.eraseIdx_eq_take_drop_succ, List.drop_of_length_le (by omega), List.append_nil]
    have key : ∀ Z D, ((l.take i ++ Z) ++ D).take i = l.eraseIdx i := fun Z D => by
      rw [List.append_assoc, List.take_append_of_le_length (by rw [List.length_take]; omega), List.take_take, Nat.min_self, hle]
    (repeat refine WF ?_); refine AWP.region_run (by kernel_rfl) (by kernel_rfl) ?_; (repeat (first | (refine RGo.gN ?_; first | refine RGo.p (W.hi rfl rfl (by exact At.f) rfl (by omega)) rfl ?_ | (refine RGo.p (W.slice_lo (lo := i + 1) rfl rfl (by exact At.f) h1 (by omega)) rfl ?_; rw [hl0]) | refine RGo.p (W.app0 rfl rfl (by exact At.f)) rfl ?_) | (refine RGo.gQ ?_; first | refine RGo.p (W.hi rfl rfl (by exact At.f) rfl (by omega)) rfl ?_ | (refine RGo.p (W.slice_lo (lo := i + 1) rfl rfl (by exact At.f) h1 (by omega)) rfl ?_; rw [hl0]) | refine RGo.p (W.app0 rfl rfl (by exact At.f)) rfl ?_) | refine RK ?_ | refine RGo.nil (by kernel_rfl) ?_))
    (repeat refine WF ?_); refine AWP.region ?_; (repeat (first | (refine AOps.gN ?_; first | refine AOps.p (W.lohi (lo := i) (hi := l.length) rfl rfl rfl (by exact At.f) rfl rfl (by omega) (by omega)) rfl ?_ | refine AOps.s (W.clear rfl (by exact At.f) (by first | exact .inl rfl | exact .inr rfl) rfl (by omega)) rfl ?_) | refine WO ?_ | refine All.i fun X => ?_ | refine AllY.i fun Y => ?_)); refine AOps.nil ?_; (repeat refine WN ?_)
    (repeat refine WF ?_); refine AWP.region ?_; (repeat (first | refine WO ?_ | refine All.i fun X => ?_ | refine AllY.i fun Y => ?_)); refine AOps.nil ?_; (repeat refine WN ?_)
    refine AWP.shrink (X := X) i ?_
    simp only [Nat.zero_add]
    rw [key]
    (refine AWP.ret ?_; (repeat (first | refine inB_r ?_ | refine andThen_r ?_)); refine retQ_r ?_)
    exact ⟨[.sl X 0 i], [.lst true 41 3 (l.eraseIdx i)], _, [], .cons (.tmp rfl) rfl .nil, .cons (.cell (.sl (p := 0) .here (by rw [hel]; omega))) .nil, by exact Sub.f, rfl, rfl⟩
end Go.Proofs.Ytfkppbkipbbmaaa

namespace Go.Proofs.Ytfkppbkipbbmaaa
set_option linter.unusedVariables false
/-- Lists of kinds that are not too long. -/
def KsB (ks : List Kind) : Prop := ks.length ≤ 1099511627776 ∧ ∀ k ∈ ks, k.fields.length ≤ 1099511627776
theorem place_ps (ks : List Kind) (m : Move) (hl : KsB ks) : PS Try.prog 53 [kindsA false false ks, moveA false m] (.tup [iA (placeOf ks m).1, iA (placeOf ks m).2.1, iA (placeOf ks m).2.2]) := by
  obtain ⟨hl0, hl1⟩ := hl
  obtain ⟨r, hr⟩ : ∃ r, placeOf ks m = r := ⟨_, rfl⟩
  rw [hr]
  unfold placeOf at hr
  have hfk := find_ps ks m.kind (by omega)
  refine Spec.of (nt := 41) (res := [.tmp 4, .tmp 5, .tmp 6]) Try.func53 rfl (by kernel_rfl) rfl rfl rfl fun Sf => ?_
  (repeat (first | (refine AOps.gN ?_; first | (refine AOps.g_box ?_; refine AOps.goB ?_)) | refine WK ?_ | refine All.i fun X => ?_ | refine AllY.i fun Y => ?_))
  refine AWP.cond rfl (fun hc => ?_) (fun hc => ?_)
  · have hc : m.act < 0 ∨ 6 < m.act := by simpa using hc
    rw [if_pos hc] at hr
    subst hr
    (repeat (first | refine WK ?_ | refine All.i fun X => ?_ | refine AllY.i fun Y => ?_))
    (refine AWP.ret ?_; (repeat (first | refine inB_r ?_ | refine andThen_r ?_)); refine retQ_r ?_)
    exact ⟨[iA 0, iA 0, iA 1], [iA 0, iA 0, iA 1], _, [], .cons (.tmp rfl) rfl (.cons (.tmp rfl) rfl (.cons (.tmp rfl) rfl .nil)), .cons (.cell .same) (.cons (.cell .same) (.cons (.cell .same) .nil)), by exact Sub.f, rfl, rfl⟩
  have hc : ¬ (m.act < 0 ∨ 6 < m.act) := by simpa using hc
  rw [if_neg hc] at hr
  (repeat (first | refine WK ?_ | refine All.i fun X => ?_ | refine AllY.i fun Y => ?_))
  refine AWP.cond rfl (fun hd => ?_) (fun hd => ?_)
  · have hd : m.act = 0 := by simpa using hd
    rw [if_pos hd] at hr
    subst hr
    (repeat (first | refine WK ?_ | refine All.i fun X => ?_ | refine AllY.i fun Y => ?_))
    (refine AWP.ret ?_; (repeat (first | refine inB_r ?_ | refine andThen_r ?_)); refine retQ_r ?_)
    exact ⟨[iA 0, iA 0, iA 0], [iA 0, iA 0, iA 0], _, [], .cons (.tmp rfl) rfl (.cons (.tmp rfl) rfl (.cons (.tmp rfl) rfl .nil)), .cons (.cell .same) (.cons (.cell .same) (.cons (.cell .same) .nil)), by exact Sub.f, rfl, rfl⟩
  have hd : ¬ m.act = 0 := by simpa using hd
  rw [if_neg hd] at hr
  (repeat (first | (refine AOps.gN ?_; first | (refine AOps.g_callf ?_; first | refine AOps.c2 (h := (hfk ..)) (k := ?_))) | refine WK ?_ | refine All.i fun X => ?_ | refine AllY.i fun Y => ?_))
  refine AWP.cond rfl (fun he => ?_) (fun he => ?_)
  · have he : findKind ks m.kind < 0 := by simpa using he
    rw [if_pos he] at hr
    subst hr
    (repeat (first | refine WK ?_ | refine All.i fun X => ?_ | refine AllY.i fun Y => ?_))
    (refine AWP.ret ?_; (repeat (first | refine inB_r ?_ | refine andThen_r ?_)); refine retQ_r ?_)
    exact ⟨[iA 0, iA 0, iA 4], [iA 0, iA 0, iA 4], _, [], .cons (.tmp rfl) rfl (.cons (.tmp rfl) rfl (.cons (.tmp rfl) rfl .nil)), .cons (.cell .same) (.cons (.cell .same) (.cons (.cell .same) .nil)), by exact Sub.f, rfl, rfl⟩
  have he : ¬ findKind ks m.kind < 0 := by simpa using he
  rw [if_neg he] at hr
  obtain ⟨i, hi, k, hk, hkn⟩ := findKind_at (l := ks) (name := m.kind) (by omega)
  rw [hi] at hr ⊢
  (repeat (first | refine WK ?_ | refine All.i fun X => ?_ | refine AllY.i fun Y => ?_))
  refine AWP.cond rfl (fun hf => ?_) (fun hf => ?_)
  · have hf : m.act ≤ 3 := by simpa using hf
    rw [if_pos hf] at hr
    subst hr
    (repeat (first | refine WK ?_ | refine All.i fun X => ?_ | refine AllY.i fun Y => ?_))
    (refine AWP.ret ?_; (repeat (first | refine inB_r ?_ | refine andThen_r ?_)); refine retQ_r ?_)
    exact ⟨[iA i, iA 0, iA 0], [iA i, iA 0, iA 0], _, [], .cons (.tmp rfl) rfl (.cons (.tmp rfl) rfl (.cons (.tmp rfl) rfl .nil)), .cons (.cell .same) (.cons (.cell .same) (.cons (.cell .same) .nil)), by exact Sub.f, rfl, rfl⟩
  have hf : ¬ m.act ≤ 3 := by simpa using hf
  rw [if_neg hf, Int.toNat_natCast, hk] at hr
  dsimp only at hr
  have hat : (ks.map (kindA false))[i]? = some (kindA false k) := by rw [List.getElem?_map, hk]; rfl
  have hff := field_idx_ps k m.field (hl1 k (List.mem_of_getElem? hk))
  (repeat first | refine AOps.nil ?_ | refine WF ?_)
  (repeat refine WF ?_); refine AWP.region_run (by kernel_rfl) (by kernel_rfl) ?_; (repeat (first | (refine RGo.gN ?_; first | (refine RGo.g_callf ?_; first | refine RGo.c2 (h := (hff ..)) (k := ?_))) | (refine RGo.gQ ?_; first | (refine RGo.g_callf ?_; first | refine RGo.c2 (h := (hff ..)) (k := ?_))) | refine RK ?_ | refine RGo.nil (by kernel_rfl) ?_))
  (repeat (first | refine WK ?_ | refine All.i fun X => ?_ | refine AllY.i fun Y => ?_))
  refine AWP.cond rfl (fun hg => ?_) (fun hg => ?_)
  · have hg : findField k.fields m.field < 0 := by simpa using hg
    rw [if_pos hg] at hr
    subst hr
    (repeat (first | refine WK ?_ | refine All.i fun X => ?_ | refine AllY.i fun Y => ?_))
    (refine AWP.ret ?_; (repeat (first | refine inB_r ?_ | refine andThen_r ?_)); refine retQ_r ?_)
    exact ⟨[iA 0, iA 0, iA 4], [iA 0, iA 0, iA 4], _, [], .cons (.tmp rfl) rfl (.cons (.tmp rfl) rfl (.cons (.tmp rfl) rfl .nil)), .cons (.cell .same) (.cons (.cell .same) (.cons (.cell .same) .nil)), by exact Sub.f, rfl, rfl⟩
  · have hg : ¬ findField k.fields m.field < 0 := by simpa using hg
    rw [if_neg hg] at hr
    subst hr
    (repeat (first | refine WK ?_ | refine All.i fun X => ?_ | refine AllY.i fun Y => ?_))
    (refine AWP.ret ?_; (repeat (first | refine inB_r ?_ | refine andThen_r ?_)); refine retQ_r ?_)
    exact ⟨[iA i, iA (findField k.fields m.field), iA 0], [iA i, iA (findField k.fields m.field), iA 0], _, [], .cons (.tmp rfl) rfl (.cons (.tmp rfl) rfl (.cons (.tmp rfl) rfl .nil)), .cons (.cell .same) (.cons (.cell .same) (.cons (.cell .same) .nil)), by exact Sub.f, rfl, rfl⟩
/-- Where a move's place lies. -/
theorem placeOf_at {ks : List Kind} {m : Move} (h : (placeOf ks m).2.2 = 0) : 0 ≤ m.act ∧ m.act ≤ 6 ∧ (m.act = 0 ∧ placeOf ks m = (0, 0, 0) ∨ m.act ≠ 0 ∧ ∃ i k, ks[i]? = some k ∧ k.name = m.kind ∧ findKind ks m.kind = (i : Nat) ∧ (m.act ≤ 3 ∧ placeOf ks m = (((i : Nat) : Int), 0, 0) ∨ 3 < m.act ∧ ∃ j f, k.fields[j]? = some f ∧ f.name = m.field ∧ findField k.fields m.field = (j : Nat) ∧ placeOf ks m = (((i : Nat) : Int), ((j : Nat) : Int), 0))) := by
  obtain ⟨r, hr⟩ : ∃ r, placeOf ks m = r := ⟨_, rfl⟩
  rw [hr] at h ⊢
  unfold placeOf at hr
  split at hr
  · subst hr; cases h
  · rename_i h1
    refine ⟨by omega, by omega, ?_⟩
    split at hr
    · exact .inl ⟨‹_›, hr.symm⟩
    · rename_i h2
      refine .inr ⟨h2, ?_⟩
      split at hr
      · subst hr; cases h
      · rename_i h3
        obtain ⟨i, hi, k, hk, hkn⟩ := findKind_at (l := ks) (name := m.kind) (by omega)
        refine ⟨i, k, hk, hkn, hi, ?_⟩
        rw [hi] at hr
        split at hr
        · exact .inl ⟨‹_›, hr.symm⟩
        · rename_i h4
          rw [Int.toNat_natCast, hk] at hr
          dsimp only at hr
          split at hr
          · subst hr; cases h
          · rename_i h5
            obtain ⟨j, hj, f, hf, hfn⟩ := findField_at (l := k.fields) (name := m.field) (by omega)
            rw [hj] at hr
            exact .inr ⟨by omega, j, f, hf, hfn, hj, hr.symm⟩
end Go.Proofs.Ytfkppbkipbbmaaa

namespace Go.Proofs.Ytfkppbkipbbmaaa
set_option linter.unusedVariables false
theorem field_free (f : Field) : FreeE (fieldA f) := FreeE.agg fun x hx => by
  simp only [List.mem_cons, List.not_mem_nil, or_false] at hx
  rcases hx with rfl | rfl | rfl <;> exact FreeE.prim _
theorem fields_free (l : List Field) : FreeL (l.map fieldA) := fun x hx => by
  obtain ⟨f, _, rfl⟩ := List.mem_map.1 hx
  exact field_free f
theorem lstF_free (t : TypeId) (sz : Nat) (l : List AV) : FreeE (.lst false t sz l) := fun m c bs k => k.1
theorem kind_free (k : Kind) : FreeE (kindA false k) := FreeE.agg fun x hx => by
  simp only [List.mem_cons, List.not_mem_nil, or_false] at hx
  rcases hx with rfl | rfl
  · exact FreeE.prim _
  · exact lstF_free _ _ _
theorem kinds_free (l : List Kind) : FreeL (l.map (kindA false)) := fun x hx => by
  obtain ⟨f, _, rfl⟩ := List.mem_map.1 hx
  exact kind_free f
theorem kinds_frz (o : Bool) (l : List Kind) : AV.frzs (l.map (kindA o)) = l.map (kindA false) := Frzs.h
theorem kinds_set (o : Bool) (l : List Kind) (i : Nat) (k : Kind) : (l.map (kindA o)).set i (kindA o k) = (l.set i k).map (kindA o) := by rw [List.map_set]
theorem fields_set (l : List Field) (i : Nat) (f : Field) : (l.map fieldA).set i (fieldA f) = (l.set i f).map fieldA := by rw [List.map_set]
theorem eraseIdx_map {α β : Type} (f : α → β) : ∀ (l : List α) (i : Nat), (l.map f).eraseIdx i = (l.eraseIdx i).map f
  | [], _ => rfl
  | _ :: _, 0 => rfl
  | a :: l, i + 1 => by simp [eraseIdx_map f l i]
theorem eraseIdx_mapK (l : List Kind) (i : Nat) : (l.map (kindA false)).eraseIdx i = (l.eraseIdx i).map (kindA false) := eraseIdx_map _ l i
set_option maxRecDepth 8000 in
set_option maxHeartbeats 4000000 in
theorem one_mps (ks : List Kind) (m : Move) (hl : KsB ks) (hw : m.whole.fields.length ≤ 1099511627776) : PS Try.prog 54 [kindsA false false ks, moveA false m] (.tup [kindsA false false (stepOf ks m).1, iA (stepOf ks m).2]) := by
  have hpl := place_ps ks m hl
  have hcp := kindCopy_ps ks hl.1 hl.2
  have hcw := kindCopy_ps [m.whole] (by simp) (fun k hk => by rw [List.mem_singleton.1 hk]; exact hw)
  obtain ⟨r, hr⟩ : ∃ r, stepOf ks m = r := ⟨_, rfl⟩
  rw [hr]
  unfold stepOf at hr
  have hkm : (ks.map (kindA true)).length = ks.length := List.length_map _
  refine Spec.of (nt := 120) (res := [.tmp 4, .tmp 5]) Try.func54 rfl (by kernel_rfl) rfl rfl rfl fun Sf => ?_
  by_cases he : (placeOf ks m).2.2 = 0
  · obtain ⟨ha0, ha6, hplc⟩ := placeOf_at he
    rw [if_neg (by simp [he])] at hr
    obtain ⟨pl, hpl'⟩ : ∃ pl, placeOf ks m = pl := ⟨_, rfl⟩
    rw [hpl'] at hpl hr he hplc
    obtain ⟨out, hout⟩ : ∃ out, rawOf ks m pl.1.toNat pl.2.1.toNat = out := ⟨_, rfl⟩
    rw [hout] at hr
    have hck := check_ps out
    obtain ⟨p1, p2, p3⟩ := pl
    dsimp only at he hpl hout hr
    subst he
    obtain ⟨act, mk, mf, mn, mv, new, whole⟩ := m
    dsimp only at ha0 ha6 hplc hw hcw
    (repeat refine WF ?_); refine AWP.region ?_; (repeat (first | (refine AOps.gN ?_; first | (refine AOps.g_box ?_; refine AOps.goB ?_)) | refine WO ?_ | refine All.i fun X => ?_ | refine AllY.i fun Y => ?_)); refine AOps.nil ?_; (repeat refine WN ?_)
    (repeat refine WF ?_); refine AWP.region ?_; (repeat (first | (refine AOps.gN ?_; first | (refine AOps.g_callf ?_; first | refine AOps.c2 (h := (hpl ..)) (k := ?_))) | refine WO ?_ | refine All.i fun X => ?_ | refine AllY.i fun Y => ?_)); refine AOps.nil ?_; (repeat refine WN ?_)
    (repeat refine WF ?_); refine AWP.region ?_; (repeat (first | refine WO ?_ | refine All.i fun X => ?_ | refine AllY.i fun Y => ?_)); refine AOps.nil ?_; (repeat refine WN ?_)
    refine AWP.cond_f rfl rfl ?_
    (repeat first | refine AOps.nil ?_ | refine WF ?_)
    (repeat refine WF ?_); refine AWP.region ?_; (repeat (first | (refine AOps.gN ?_; first | (refine AOps.g_callf ?_; first | refine AOps.t1 (h := hcp) fun K => ?_)) | refine WO ?_ | refine All.i fun X => ?_ | refine AllY.i fun Y => ?_))
    (repeat first | refine AOps.nil ?_ | refine WF ?_)
    (repeat refine WF ?_); refine AWP.region ?_; (repeat (first | refine WO ?_ | refine All.i fun X => ?_ | refine AllY.i fun Y => ?_)); refine AOps.nil ?_; (repeat refine WN ?_)
    refine AWP.joinS (fun b : Nat × Nat × List AV × List Slot => b.2.1 = out.length ∧ (b.2.2.1 = out.map (kindA false) ∧ b.2.2.2 = [] ∨ ∃ Y i k', b.2.2.2 = [(Y, .row 41 3 (k'.fields.map fieldA))] ∧ b.2.2.1 = (ks.map (kindA true)).set i (.agg [sA k'.name, .sl Y 0 (k'.fields.map fieldA).length]) ∧ i < ks.length ∧ out = ks.set i k')) (fun b => ⟨[(9, .sl b.1 0 b.2.1)], b.2.2.2 ++ (b.1, .row 44 2 b.2.2.1) :: Sf⟩) ?_ ?_
    · have hcs : act = 0 ∨ act = 1 ∨ act = 2 ∨ act = 3 ∨ act = 4 ∨ act = 5 ∨ act = 6 := by omega
      rcases hplc with ⟨h0, hp0⟩ | ⟨hn0, i, k, hk, hkn, hki, hplc⟩
      · have h0 : act = 0 := h0
        subst h0
        have hout2 : ks ++ [whole] = out := hout
        have hp1 : p1 = 0 := by injection hp0
        have hp2 : p2 = 0 := by injection hp0 with _ h; injection h
        subst hp1 hp2
        (repeat (first | refine WK ?_ | refine All.i fun X => ?_ | refine AllY.i fun Y => ?_))
        refine AWP.cond_t rfl rfl ?_
        refine AWP.frzRow K (ks.map (kindA false)) (kinds_frz true ks) ?_
        have hb : ((ks.map (kindA true)).length + ([whole].map (kindA false)).length) * 40 ≤ 140737488355328 := by have := hl.1; simp; omega
        have hkl : (ks.map (kindA true)).length = (ks.map (kindA false)).length := by simp
        (repeat (first | (refine AOps.gN ?_; first | (refine AOps.g_callf ?_; first | refine AOps.c1 (h := (hcw ..)) (k := ?_)) | (refine AOps.g_lit ?_; refine AOps.goL (kindA false whole) ?_)) | refine WK ?_ | refine All.i fun X => ?_ | refine AllY.i fun Y => ?_))
        exact jn (Y, (ks.map (kindA true)).length + ([whole].map (kindA false)).length, _, []) ⟨by rw [← hout2]; simp, .inl ⟨by rw [← hout2, List.map_append], rfl⟩⟩
      · have hil : i < ks.length := (List.getElem?_eq_some_iff.1 hk).1
        have hat : (ks.map (kindA true))[i]? = some (kindA true k) := by rw [List.getElem?_map, hk]; rfl
        have hatF : (ks.map (kindA false))[i]? = some (kindA false k) := by rw [List.getElem?_map, hk]; rfl
        have hikm : i < (ks.map (kindA true)).length := by omega
        have hi40 : i ≤ 1099511627776 := by have := hl.1; omega
        have hfl := hl.2 k (List.mem_of_getElem? hk)
        have hfm : (k.fields.map fieldA).length = k.fields.length := List.length_map _
        have hal : act = 1 ∨ act = 2 ∨ act = 3 ∨ act = 4 ∨ act = 5 ∨ act = 6 := by have hn0 : act ≠ 0 := hn0; omega
        have hpi : p1 = (i : Int) := by rcases hplc with ⟨_, h⟩ | ⟨_, _, _, _, _, _, h⟩ <;> injection h
        obtain ⟨kn, kf⟩ := k
        dsimp only at hfl hfm hplc
        subst hpi
        have hout' : rawOf ks ⟨act, mk, mf, mn, mv, new, whole⟩ i p2.toNat = out := hout
        clear hout
        unfold rawOf at hout'
        rw [if_neg hn0, hk] at hout'
        dsimp only at hout'
        have hkset : ∀ k' : Kind, (ks.map (kindA false)).set i (kindA false k') = (ks.set i k').map (kindA false) := fun k' => kinds_set false ks i k'
        have hfz : ∀ k' : Kind, AV.frzs ((ks.map (kindA true)).set i (kindA true k')) = (ks.set i k').map (kindA false) := fun k' => by rw [kinds_set, kinds_frz]
        rcases hal with rfl | rfl | rfl | rfl | rfl | rfl
        · rw [if_pos rfl] at hout'
          (repeat (first | refine WK ?_ | refine All.i fun X => ?_ | refine AllY.i fun Y => ?_))
          refine AWP.cond_f rfl rfl ?_
          (repeat (first | refine WK ?_ | refine All.i fun X => ?_ | refine AllY.i fun Y => ?_))
          refine AWP.cond_t rfl rfl ?_
          refine AWP.frzRow K (ks.map (kindA false)) (kinds_frz true ks) ?_
          have hkm2 : (ks.map (kindA true)).length = (ks.map (kindA false)).length := by simp
          refine AWP.rs fun Y => ?_
          have hdel := (deleteK_sp K (ks.map (kindA true)).length i (ks.map (kindA false)) hkm2 hikm (by have := hl.1; omega) (kinds_free ks) (fun x hx => by obtain ⟨y, _, rfl⟩ := List.mem_map.1 hx; rfl)).used
          (repeat refine WF ?_); refine AWP.region ?_; (repeat (first | (refine AOps.gN ?_; first | (refine AOps.g_callf ?_; first | refine AOps.z3 (h := hdel) (hT := .ls (Y := Y)) (k := ?_))) | refine WO ?_ | refine All.i fun X => ?_ | refine AllY.i fun Y => ?_)); refine AOps.nil ?_; (repeat refine WN ?_)
          (repeat first | refine AOps.nil ?_ | refine WF ?_)
          have hel : ((ks.map (kindA false)).eraseIdx i) = (ks.eraseIdx i).map (kindA false) := (eraseIdx_mapK ks i)
          rw [← hout']
          exact jn (Y, ((ks.map (kindA false)).eraseIdx i).length, _, []) ⟨by dsimp only; rw [hel, List.length_map], .inl ⟨hel, rfl⟩⟩
        · rw [if_neg (by decide), if_pos rfl] at hout'
          (repeat (first | refine WK ?_ | refine All.i fun X => ?_ | refine AllY.i fun Y => ?_))
          refine AWP.cond_f rfl rfl ?_
          (repeat (first | refine WK ?_ | refine All.i fun X => ?_ | refine AllY.i fun Y => ?_))
          refine AWP.cond_f rfl rfl ?_
          (repeat (first | refine WK ?_ | refine All.i fun X => ?_ | refine AllY.i fun Y => ?_))
          refine AWP.cond_t rfl rfl ?_
          refine AWP.frzRow K (ks.map (kindA false)) (kinds_frz true ks) ?_
          (repeat (first | refine WK ?_ | refine All.i fun X => ?_ | refine AllY.i fun Y => ?_))
          rw [← hout']
          exact jn (K, (ks.map (kindA true)).length, _, []) ⟨by simp, .inl ⟨hkset ⟨mn, kf⟩, rfl⟩⟩
        · rw [if_neg (by decide), if_neg (by decide), if_pos rfl] at hout'
          (repeat (first | refine WK ?_ | refine All.i fun X => ?_ | refine AllY.i fun Y => ?_))
          refine AWP.cond_f rfl rfl ?_
          (repeat (first | refine WK ?_ | refine All.i fun X => ?_ | refine AllY.i fun Y => ?_))
          refine AWP.cond_f rfl rfl ?_
          (repeat (first | refine WK ?_ | refine All.i fun X => ?_ | refine AllY.i fun Y => ?_))
          refine AWP.cond_f rfl rfl ?_
          (repeat (first | refine WK ?_ | refine All.i fun X => ?_ | refine AllY.i fun Y => ?_))
          refine AWP.cond_t rfl rfl ?_
          refine AWP.thawIn (Y := K) .here (fun _ => Hos.at hat (.agg (.tail (.head .here)))) fun F => ?_
          have hat1 : ((ks.map (kindA true)).set i (.agg [sA kn, .sl F 0 (kf.map fieldA).length]))[i]? = some (.agg [sA kn, .sl F 0 (kf.map fieldA).length]) := List.getElem?_set_self hikm
          refine AWP.rs fun Y => ?_
          have hb : ((kf.map fieldA).length + [fieldA new].length) * 32 ≤ 140737488355328 := by simp; omega
          have hatK : (ks.map (kindA true)).length = ((ks.map (kindA true)).set i (.agg [sA kn, .sl F 0 (kf.map fieldA).length])).length := by simp
          (repeat refine WF ?_); refine AWP.region_run (by kernel_rfl) (by kernel_rfl) ?_; (repeat (first | (refine RGo.gN ?_; first | (refine RGo.g_lit ?_; refine RGo.goL (fieldA new) ?_)) | (refine RGo.gQ ?_; first | (refine RGo.g_lit ?_; refine RGo.goL (fieldA new) ?_)) | refine RK ?_ | refine RGo.nil (by kernel_rfl) ?_))
          (repeat first | refine AOps.nil ?_ | refine WF ?_)
          exact jn (K, (ks.map (kindA true)).length, ((ks.map (kindA true)).set i (.agg [sA kn, .sl F 0 (kf.map fieldA).length])).set i (.agg [sA kn, .sl Y 0 ((kf.map fieldA).length + [fieldA new].length)]), [(Y, .row 41 3 (kf.map fieldA ++ [fieldA new]))]) ⟨by rw [← hout']; simp, .inr ⟨Y, i, ⟨kn, kf ++ [new]⟩, by dsimp only; rw [List.map_append]; rfl, by dsimp only; rw [List.set_set, List.map_append, List.length_append]; rfl, hil, hout'.symm⟩⟩
        · rw [if_neg (by decide), if_neg (by decide), if_neg (by decide), if_pos rfl] at hout'
          rcases hplc with ⟨h3, _⟩ | ⟨_, j, f, hfj, hfn, hff, hpj⟩
          · exact absurd h3 (by decide)
          have hpj2 : p2 = (j : Int) := by injection hpj with _ h; injection h
          subst hpj2
          have hjl : j < kf.length := (List.getElem?_eq_some_iff.1 hfj).1
          have hj40 : j ≤ 1099511627776 := by omega
          have hjm : j < (kf.map fieldA).length := by omega
          have hatf : (kf.map fieldA)[j]? = some (fieldA f) := by rw [List.getElem?_map, hfj]; rfl
          rw [Int.toNat_natCast] at hout'
          obtain ⟨fn, fb, fl⟩ := f
          (repeat (first | refine WK ?_ | refine All.i fun X => ?_ | refine AllY.i fun Y => ?_))
          refine AWP.cond_f rfl rfl ?_
          (repeat (first | refine WK ?_ | refine All.i fun X => ?_ | refine AllY.i fun Y => ?_))
          refine AWP.cond_f rfl rfl ?_
          (repeat (first | refine WK ?_ | refine All.i fun X => ?_ | refine AllY.i fun Y => ?_))
          refine AWP.cond_f rfl rfl ?_
          (repeat (first | refine WK ?_ | refine All.i fun X => ?_ | refine AllY.i fun Y => ?_))
          refine AWP.cond_f rfl rfl ?_
          (repeat (first | refine WK ?_ | refine All.i fun X => ?_ | refine AllY.i fun Y => ?_))
          refine AWP.cond_t rfl rfl ?_
          refine AWP.thawIn (Y := K) .here (fun _ => Hos.at hat (.agg (.tail (.head .here)))) fun F => ?_
          have hat1 : ((ks.map (kindA true)).set i (.agg [sA kn, .sl F 0 (kf.map fieldA).length]))[i]? = some (.agg [sA kn, .sl F 0 (kf.map fieldA).length]) := List.getElem?_set_self hikm
          have hdel := (deleteF_sp F (kf.map fieldA).length j (kf.map fieldA) rfl hjm (by omega) (fields_free kf) (fun x hx => by obtain ⟨y, _, rfl⟩ := List.mem_map.1 hx; rfl)).used
          refine AWP.rs fun Y => ?_
          (repeat refine WF ?_); refine AWP.region ?_; (repeat (first | (refine AOps.gN ?_; first | (refine AOps.g_callf ?_; first | refine AOps.z3 (h := hdel) (hT := .ls (Y := Y)) (k := ?_))) | refine WO ?_ | refine All.i fun X => ?_ | refine AllY.i fun Y => ?_))
          (repeat first | refine AOps.nil ?_ | refine WF ?_)
          have hel : (kf.map fieldA).eraseIdx j = (kf.eraseIdx j).map fieldA := eraseIdx_map _ kf j
          exact jn (K, (ks.map (kindA true)).length, ((ks.map (kindA true)).set i (.agg [sA kn, .sl F 0 (kf.map fieldA).length])).set i (.agg [sA kn, .sl Y 0 ((kf.map fieldA).eraseIdx j).length]), [(Y, .row 41 3 ((kf.map fieldA).eraseIdx j))]) ⟨by rw [← hout']; simp, .inr ⟨Y, i, ⟨kn, kf.eraseIdx j⟩, by dsimp only; rw [hel], by dsimp only; rw [List.set_set, hel], hil, hout'.symm⟩⟩
        · rw [if_neg (by decide), if_neg (by decide), if_neg (by decide), if_neg (by decide)] at hout'
          rcases hplc with ⟨h3, _⟩ | ⟨_, j, f, hfj, hfn, hff, hpj⟩
          · exact absurd h3 (by decide)
          have hpj2 : p2 = (j : Int) := by injection hpj with _ h; injection h
          subst hpj2
          have hjl : j < kf.length := (List.getElem?_eq_some_iff.1 hfj).1
          have hj40 : j ≤ 1099511627776 := by omega
          have hjm : j < (kf.map fieldA).length := by omega
          have hatf : (kf.map fieldA)[j]? = some (fieldA f) := by rw [List.getElem?_map, hfj]; rfl
          rw [Int.toNat_natCast] at hout'
          obtain ⟨fn, fb, fl⟩ := f
          (repeat (first | refine WK ?_ | refine All.i fun X => ?_ | refine AllY.i fun Y => ?_))
          refine AWP.cond_f rfl rfl ?_
          (repeat (first | refine WK ?_ | refine All.i fun X => ?_ | refine AllY.i fun Y => ?_))
          refine AWP.cond_f rfl rfl ?_
          (repeat (first | refine WK ?_ | refine All.i fun X => ?_ | refine AllY.i fun Y => ?_))
          refine AWP.cond_f rfl rfl ?_
          (repeat (first | refine WK ?_ | refine All.i fun X => ?_ | refine AllY.i fun Y => ?_))
          refine AWP.cond_f rfl rfl ?_
          (repeat (first | refine WK ?_ | refine All.i fun X => ?_ | refine AllY.i fun Y => ?_))
          refine AWP.cond_f rfl rfl ?_
          (repeat (first | refine WK ?_ | refine All.i fun X => ?_ | refine AllY.i fun Y => ?_))
          refine AWP.cond_t rfl rfl ?_
          refine AWP.thawIn (Y := K) .here (fun _ => Hos.at hat (.agg (.tail (.head .here)))) fun F => ?_
          have hat1 : ((ks.map (kindA true)).set i (.agg [sA kn, .sl F 0 (kf.map fieldA).length]))[i]? = some (.agg [sA kn, .sl F 0 (kf.map fieldA).length]) := List.getElem?_set_self hikm
          (repeat refine WF ?_); refine AWP.region_run (by kernel_rfl) (by kernel_rfl) ?_; (repeat (first | refine RK ?_ | refine RGo.nil (by kernel_rfl) ?_))
          (repeat first | refine AOps.nil ?_ | refine WF ?_)
          rw [hfj] at hout'
          dsimp only at hout'
          rw [if_pos rfl] at hout'
          exact jn (K, (ks.map (kindA true)).length, (ks.map (kindA true)).set i (.agg [sA kn, .sl F 0 (kf.map fieldA).length]), [(F, .row 41 3 ((kf.map fieldA).set j (.agg [sA mn, iA fb, iA fl])))]) ⟨by rw [← hout']; simp, .inr ⟨F, i, ⟨kn, kf.set j ⟨mn, fb, fl⟩⟩, by dsimp only; rw [← fields_set]; rfl, by dsimp only; rw [← fields_set, List.length_set], hil, hout'.symm⟩⟩
        · rw [if_neg (by decide), if_neg (by decide), if_neg (by decide), if_neg (by decide)] at hout'
          rcases hplc with ⟨h3, _⟩ | ⟨_, j, f, hfj, hfn, hff, hpj⟩
          · exact absurd h3 (by decide)
          have hpj2 : p2 = (j : Int) := by injection hpj with _ h; injection h
          subst hpj2
          have hjl : j < kf.length := (List.getElem?_eq_some_iff.1 hfj).1
          have hj40 : j ≤ 1099511627776 := by omega
          have hjm : j < (kf.map fieldA).length := by omega
          have hatf : (kf.map fieldA)[j]? = some (fieldA f) := by rw [List.getElem?_map, hfj]; rfl
          rw [Int.toNat_natCast] at hout'
          obtain ⟨fn, fb, fl⟩ := f
          (repeat (first | refine WK ?_ | refine All.i fun X => ?_ | refine AllY.i fun Y => ?_))
          refine AWP.cond_f rfl rfl ?_
          (repeat (first | refine WK ?_ | refine All.i fun X => ?_ | refine AllY.i fun Y => ?_))
          refine AWP.cond_f rfl rfl ?_
          (repeat (first | refine WK ?_ | refine All.i fun X => ?_ | refine AllY.i fun Y => ?_))
          refine AWP.cond_f rfl rfl ?_
          (repeat (first | refine WK ?_ | refine All.i fun X => ?_ | refine AllY.i fun Y => ?_))
          refine AWP.cond_f rfl rfl ?_
          (repeat (first | refine WK ?_ | refine All.i fun X => ?_ | refine AllY.i fun Y => ?_))
          refine AWP.cond_f rfl rfl ?_
          (repeat (first | refine WK ?_ | refine All.i fun X => ?_ | refine AllY.i fun Y => ?_))
          refine AWP.cond_f rfl rfl ?_
          (repeat (first | refine WK ?_ | refine All.i fun X => ?_ | refine AllY.i fun Y => ?_))
          refine AWP.cond_t rfl rfl ?_
          refine AWP.thawIn (Y := K) .here (fun _ => Hos.at hat (.agg (.tail (.head .here)))) fun F => ?_
          have hat1 : ((ks.map (kindA true)).set i (.agg [sA kn, .sl F 0 (kf.map fieldA).length]))[i]? = some (.agg [sA kn, .sl F 0 (kf.map fieldA).length]) := List.getElem?_set_self hikm
          (repeat refine WF ?_); refine AWP.region_run (by kernel_rfl) (by kernel_rfl) ?_; (repeat (first | (refine RGo.gN ?_; first | refine RGo.s (W.store rfl rfl (by exact At.f) (List.getElem?_set_self hjm) (by exact rfl)) rfl ?_) | (refine RGo.gQ ?_; first | refine RGo.s (W.store rfl rfl (by exact At.f) (List.getElem?_set_self hjm) (by exact rfl)) rfl ?_) | refine RK ?_ | refine RGo.nil (by kernel_rfl) ?_))
          (repeat first | refine AOps.nil ?_ | refine WF ?_)
          rw [hfj] at hout'
          dsimp only at hout'
          rw [if_neg (by decide)] at hout'
          exact jn (K, (ks.map (kindA true)).length, (ks.map (kindA true)).set i (.agg [sA kn, .sl F 0 (kf.map fieldA).length]), [(F, .row 41 3 (((kf.map fieldA).set j (.agg [sA fn, iA new.bits, iA fl])).set j (.agg [sA fn, iA new.bits, iA new.low])))]) ⟨by rw [← hout']; simp, .inr ⟨F, i, ⟨kn, kf.set j ⟨fn, new.bits, new.low⟩⟩, by dsimp only; rw [List.set_set, ← fields_set]; rfl, by dsimp only; rw [← fields_set, List.length_set], hil, hout'.symm⟩⟩
    · rintro ⟨K, n, L, E⟩ ⟨hn, hLE⟩
      dsimp only at hn hLE
      subst hn
      rcases hLE with ⟨rfl, rfl⟩ | ⟨Y, i, k', rfl, rfl, hil, ho⟩
      all_goals dsimp only
      rotate_left
      · have hxat : ((ks.map (kindA true)).set i (.agg [sA k'.name, .sl Y 0 (k'.fields.map fieldA).length]))[i]? = some (.agg [sA k'.name, .sl Y 0 (k'.fields.map fieldA).length]) := List.getElem?_set_self (by omega)
        refine AWP.closeIn (X := Y) (Y := K) .here (.next .here) rfl rfl (Hos.at hxat (.agg (.tail (.head .here)))) ?_
        have hfz : AV.frzs (((ks.map (kindA true)).set i (.agg [sA k'.name, .sl Y 0 (k'.fields.map fieldA).length])).set i (kindA true k')) = out.map (kindA false) := by rw [List.set_set, kinds_set, kinds_frz, ho]
        refine AWP.frzRow K (out.map (kindA false)) hfz ?_
        refine AWP.weak (st' := ⟨[(9, .sl K 0 out.length)], (K, .row 44 2 (out.map (kindA false))) :: Sf⟩) ⟨by exact Lk.f, by exact Sub.f⟩ ?_
        refine AWP.iceL 9 (out.map (kindA false)) (kinds_frz false out) ?_
        (repeat (first | (refine AOps.gN ?_; first | (refine AOps.g_callf ?_; first | refine AOps.c1 (h := (hck ..)) (k := ?_))) | refine WK ?_ | refine All.i fun X => ?_ | refine AllY.i fun Y => ?_))
        refine AWP.cond rfl (fun hc => ?_) (fun hc => ?_)
        · have hc : checkErr out ≠ 0 := by simpa using hc
          rw [if_pos hc] at hr
          subst hr
          (repeat (first | refine WK ?_ | refine All.i fun X => ?_ | refine AllY.i fun Y => ?_))
          (refine AWP.ret ?_; (repeat (first | refine inB_r ?_ | refine andThen_r ?_)); refine retQ_r ?_)
          exact ⟨[.prim (.slice none 0 0), iA (checkErr out)], [kindsA false false [], iA (checkErr out)], _, [], .cons (.tmp rfl) rfl (.cons (.tmp rfl) rfl .nil), .cons (.cell .nil) (.cons (.cell .same) .nil), by exact Sub.f, rfl, rfl⟩
        · have hc : checkErr out = 0 := by simpa using hc
          rw [if_neg (by simp [hc])] at hr
          subst hr
          (repeat (first | refine WK ?_ | refine All.i fun X => ?_ | refine AllY.i fun Y => ?_))
          (refine AWP.ret ?_; (repeat (first | refine inB_r ?_ | refine andThen_r ?_)); refine retQ_r ?_)
          exact ⟨[kindsA false false out, iA 0], [kindsA false false out, iA 0], _, [], .cons (.tmp rfl) rfl (.cons (.tmp rfl) rfl .nil), .cons (.cell .same) (.cons (.cell .same) .nil), by exact Sub.f, rfl, rfl⟩
      · refine AWP.iceL 9 (out.map (kindA false)) (kinds_frz false out) ?_
        (repeat (first | (refine AOps.gN ?_; first | (refine AOps.g_callf ?_; first | refine AOps.c1 (h := (hck ..)) (k := ?_))) | refine WK ?_ | refine All.i fun X => ?_ | refine AllY.i fun Y => ?_))
        refine AWP.cond rfl (fun hc => ?_) (fun hc => ?_)
        · have hc : checkErr out ≠ 0 := by simpa using hc
          rw [if_pos hc] at hr
          subst hr
          (repeat (first | refine WK ?_ | refine All.i fun X => ?_ | refine AllY.i fun Y => ?_))
          (refine AWP.ret ?_; (repeat (first | refine inB_r ?_ | refine andThen_r ?_)); refine retQ_r ?_)
          exact ⟨[.prim (.slice none 0 0), iA (checkErr out)], [kindsA false false [], iA (checkErr out)], _, [], .cons (.tmp rfl) rfl (.cons (.tmp rfl) rfl .nil), .cons (.cell .nil) (.cons (.cell .same) .nil), by exact Sub.f, rfl, rfl⟩
        · have hc : checkErr out = 0 := by simpa using hc
          rw [if_neg (by simp [hc])] at hr
          subst hr
          (repeat (first | refine WK ?_ | refine All.i fun X => ?_ | refine AllY.i fun Y => ?_))
          (refine AWP.ret ?_; (repeat (first | refine inB_r ?_ | refine andThen_r ?_)); refine retQ_r ?_)
          exact ⟨[kindsA false false out, iA 0], [kindsA false false out, iA 0], _, [], .cons (.tmp rfl) rfl (.cons (.tmp rfl) rfl .nil), .cons (.cell .same) (.cons (.cell .same) .nil), by exact Sub.f, rfl, rfl⟩
  · rw [if_pos he] at hr
    subst hr
    obtain ⟨e, hee⟩ : ∃ e, (placeOf ks m).2.2 = e := ⟨_, rfl⟩
    rw [hee] at he hpl
    dsimp only
    rw [hee]
    (repeat refine WF ?_); refine AWP.region ?_; (repeat (first | (refine AOps.gN ?_; first | (refine AOps.g_box ?_; refine AOps.goB ?_)) | refine WO ?_ | refine All.i fun X => ?_ | refine AllY.i fun Y => ?_)); refine AOps.nil ?_; (repeat refine WN ?_)
    (repeat refine WF ?_); refine AWP.region ?_; (repeat (first | (refine AOps.gN ?_; first | (refine AOps.g_callf ?_; first | refine AOps.c2 (h := (hpl ..)) (k := ?_))) | refine WO ?_ | refine All.i fun X => ?_ | refine AllY.i fun Y => ?_)); refine AOps.nil ?_; (repeat refine WN ?_)
    (repeat refine WF ?_); refine AWP.region ?_; (repeat (first | refine WO ?_ | refine All.i fun X => ?_ | refine AllY.i fun Y => ?_)); refine AOps.nil ?_; (repeat refine WN ?_)
    refine AWP.cond_t rfl (decide_eq_true he) ?_
    (repeat (first | refine WK ?_ | refine All.i fun X => ?_ | refine AllY.i fun Y => ?_))
    (refine AWP.ret ?_; (repeat (first | refine inB_r ?_ | refine andThen_r ?_)); refine retQ_r ?_)
    exact ⟨[.prim (.slice none 0 0), iA e], [kindsA false false [], iA e], _, [], .cons (.tmp rfl) rfl (.cons (.tmp rfl) rfl .nil), .cons (.cell .nil) (.cons (.cell .same) .nil), by exact Sub.f, rfl, rfl⟩
end Go.Proofs.Ytfkppbkipbbmaaa

namespace Go.Proofs.Ytfkppbkipbbmaaa
set_option linter.unusedVariables false
theorem high_ps (f : Field) : PS Try.prog 99 [fieldA f] (iA (highOf f)) := by
  refine Spec.of (nt := 13) (res := [.tmp 2]) Try.func99 rfl (by kernel_rfl) rfl rfl rfl fun Sf => ?_
  (repeat (first | (refine AOps.gN ?_; first | refine AOps.p (W.call1 rfl (field_ps _) rfl) rfl ?_) | refine WK ?_ | refine All.i fun X => ?_ | refine AllY.i fun Y => ?_))
  refine AWP.cond rfl (fun hb => ?_) (fun hb => ?_)
  · have hb : fieldErr f ≠ 0 := by simpa using hb
    (repeat (first | refine WK ?_ | refine All.i fun X => ?_ | refine AllY.i fun Y => ?_))
    (refine AWP.ret ?_; (repeat (first | refine inB_r ?_ | refine andThen_r ?_)); refine retQ_r ?_)
    refine Ends.plain rfl rfl (by exact Sub.f) ⟨?_, rfl⟩
    simp [highOf, hb]
  have hb : fieldErr f = 0 := by simpa using hb
  have h1 := (fieldErr_eq_zero f).1 hb
  obtain ⟨n, hn⟩ : ∃ n : Nat, f.bits = n := ⟨f.bits.toNat, by omega⟩
  have hp : (2 : Int) ^ n ≤ 4294967296 ∧ 1 ≤ (2 : Int) ^ n := by
    have hn2 : n ≤ 32 := by omega
    clear hn
    have : ∀ n, n ≤ 32 → (2 : Int) ^ n ≤ 4294967296 ∧ 1 ≤ (2 : Int) ^ n := by decide
    exact this n hn2
  have hw : IntKind.i64.wrap (1 * 2 ^ n) = 2 ^ n := by rw [Int.one_mul]; exact wrap_id (by omega) (by omega)
  (repeat (first | refine WK ?_ | refine All.i fun X => ?_ | refine AllY.i fun Y => ?_))
  (repeat refine WF ?_); refine AWP.region_run (by kernel_rfl) (by kernel_rfl) ?_; (repeat (first | (refine RGo.gN ?_; first | refine RGo.p (W.shl rfl rfl hn (by show n ≤ 64; omega)) rfl ?_ | refine RGo.p (W.sub rfl rfl (by rw [hw]; omega)) rfl ?_ | refine RGo.p (W.add rfl rfl (by rw [hw]; omega)) rfl ?_) | (refine RGo.gQ ?_; first | refine RGo.p (W.shl rfl rfl hn (by show n ≤ 64; omega)) rfl ?_ | refine RGo.p (W.sub rfl rfl (by rw [hw]; omega)) rfl ?_ | refine RGo.p (W.add rfl rfl (by rw [hw]; omega)) rfl ?_) | refine RK ?_ | refine RGo.nil (by kernel_rfl) ?_))
  (repeat (first | refine WK ?_ | refine All.i fun X => ?_ | refine AllY.i fun Y => ?_))
  (refine AWP.ret ?_; (repeat (first | refine inB_r ?_ | refine andThen_r ?_)); refine retQ_r ?_)
  refine Ends.plain rfl rfl (by exact Sub.f) ⟨?_, rfl⟩
  simp only [hw]
  simp [highOf, hb, hn]
theorem near_ps (f : Field) (v : Int) : PS Try.prog 93 [fieldA f, iA v] (iA (nearOf f v)) := by
  refine Spec.of (nt := 15) (res := [.tmp 4]) Try.func93 rfl (by kernel_rfl) rfl rfl rfl fun Sf => ?_
  (repeat (first | (refine AOps.gN ?_; first | refine AOps.p (W.call1 rfl (field_ps _) rfl) rfl ?_) | refine WK ?_ | refine All.i fun X => ?_ | refine AllY.i fun Y => ?_))
  refine AWP.cond rfl (fun hb => ?_) (fun hb => ?_)
  · have hb : fieldErr f ≠ 0 := by simpa using hb
    (repeat (first | refine WK ?_ | refine All.i fun X => ?_ | refine AllY.i fun Y => ?_))
    (refine AWP.ret ?_; (repeat (first | refine inB_r ?_ | refine andThen_r ?_)); refine retQ_r ?_)
    refine Ends.plain rfl rfl (by exact Sub.f) ⟨?_, rfl⟩
    simp [nearOf, hb]
  have hb : fieldErr f = 0 := by simpa using hb
  (repeat (first | refine WK ?_ | refine All.i fun X => ?_ | refine AllY.i fun Y => ?_))
  (repeat refine WF ?_); refine AWP.region_run (by kernel_rfl) (by kernel_rfl) ?_; (repeat (first | (refine RGo.gN ?_; first | refine RGo.p (W.call1 rfl (high_ps _) rfl) rfl ?_) | (refine RGo.gQ ?_; first | refine RGo.p (W.call1 rfl (high_ps _) rfl) rfl ?_) | refine RK ?_ | refine RGo.nil (by kernel_rfl) ?_))
  (repeat (first | refine WK ?_ | refine All.i fun X => ?_ | refine AllY.i fun Y => ?_))
  (refine AWP.ret ?_; (repeat (first | refine inB_r ?_ | refine andThen_r ?_)); refine retQ_r ?_)
  refine Ends.plain rfl rfl (by exact Sub.f) ⟨?_, rfl⟩
  rw [show nearOf f v = max f.low (min v (highOf f)) from by simp [nearOf, hb]]
  simp only [Int.max_def, Int.min_def]
  congr 2
  (repeat' split) <;> omega
end Go.Proofs.Ytfkppbkipbbmaaa

namespace Go.Proofs.Ytfkppbkipbbmaaa
set_option linter.unusedVariables false
def idxF {α : Type} (l : List α) (p : α → Bool) : Int := match l.findIdx? p with
  | some i => i
  | none => -1
theorem idxF_none {α : Type} {l : List α} {p : α → Bool} (h : ∀ j (hj : j < l.length), p l[j] = false) : idxF l p = -1 := by
  have : l.findIdx? p = none := by
    rw [List.findIdx?_eq_none_iff]
    intro x hx
    obtain ⟨j, hj, rfl⟩ := List.getElem_of_mem hx
    exact h j hj
  simp [idxF, this]
theorem idxF_some {α : Type} {l : List α} {p : α → Bool} {i : Nat} (hi : i < l.length) (e : p l[i] = true) (h : ∀ j (hj : j < i), p (l[j]'(by omega)) = false) : idxF l p = i := by
  have : l.findIdx? p = some i := by
    rw [List.findIdx?_eq_some_iff_getElem]
    exact ⟨hi, e, fun j hj => by simpa using h j hj⟩
  simp [idxF, this]
theorem idxF_any {α : Type} (l : List α) (p : α → Bool) : decide ((0 : Int) ≤ idxF l p) = l.any p := by
  unfold idxF
  cases h : l.findIdx? p with
  | none =>
    rw [List.findIdx?_eq_none_iff] at h
    have : l.any p = false := List.any_eq_false.2 fun x hx => by rw [h x hx]; simp
    rw [this]
    rfl
  | some i =>
    obtain ⟨hi, e, _⟩ := List.findIdx?_eq_some_iff_getElem.1 h
    have : l.any p = true := List.any_eq_true.2 ⟨_, List.getElem_mem hi, e⟩
    rw [this]
    simp
theorem idxF_range {α : Type} (l : List α) (p : α → Bool) : -1 ≤ idxF l p ∧ idxF l p < l.length ∧ idxF l p ≤ l.length := by
  unfold idxF
  cases h : l.findIdx? p with
  | none => simp; omega
  | some i =>
    obtain ⟨hi, _⟩ := List.findIdx?_eq_some_iff_getElem.1 h
    simp; omega
end Go.Proofs.Ytfkppbkipbbmaaa

namespace Go.Proofs.Ytfkppbkipbbmaaa
set_option linter.unusedVariables false
theorem cloneI_ps (l : List Int) (hl : l.length * 8 ≤ 140737488355328) : PS Try.prog 70 [.lst false 3 1 (l.map iA)] (.lst true 3 1 (l.map iA)) := by
  refine Spec.of (nt := 8) (res := [.tmp 2]) Try.func70 rfl (by kernel_rfl) rfl rfl rfl fun Sf => ?_
  (repeat (first | (refine AOps.gN ?_; first | refine AOps.isNil fun b hb => ?_) | refine WK ?_ | refine All.i fun X => ?_ | refine AllY.i fun Y => ?_))
  refine AWP.cond rfl (fun hc => ?_) (fun hc => ?_)
  · rw [hb hc]
    (repeat (first | refine WK ?_ | refine All.i fun X => ?_ | refine AllY.i fun Y => ?_))
    (refine AWP.ret ?_; (repeat (first | refine inB_r ?_ | refine andThen_r ?_)); refine retQ_r ?_)
    exact ⟨[.prim (.slice none 0 0)], [.lst true 3 1 []], _, [], .cons (.tmp rfl) rfl .nil, .cons (.cell .nil) .nil, by exact Sub.f, rfl, rfl⟩
  · have hl' : (0 + (l.map iA).length) * 8 ≤ 140737488355328 := by simpa using hl
    clear hl
    (repeat (first | (refine AOps.gN ?_; first | (refine AOps.g_lit ?_; refine AOps.goL0 fun K => ?_)) | refine WK ?_ | refine All.i fun X => ?_ | refine AllY.i fun Y => ?_))
    (refine AWP.ret ?_; (repeat (first | refine inB_r ?_ | refine andThen_r ?_)); refine retQ_r ?_)
    exact ⟨[.sl Y 0 (0 + (l.map iA).length)], [.lst true 3 1 (l.map iA)], _, [], .cons (.tmp rfl) rfl .nil, .cons (.cell (.sl (p := 0) .here (by simp))) .nil, by exact Sub.f, rfl, rfl⟩
end Go.Proofs.Ytfkppbkipbbmaaa

namespace Go.Proofs.Ytfkppbkipbbmaaa
set_option linter.unusedVariables false
theorem deleteI_sp (X n i : Nat) (l : List AV) (hn : n = l.length) (hi : i < n) (hl : n ≤ 1099511627776) (hfr : FreeL l) (hw : ∀ e ∈ l, e.width = 1) :
    Spec Try.prog 94 [.sl X 0 n, iA i, iA ((i : Int) + 1)] [(X, .row 3 1 l)] fun r S' => r = .lst true 3 1 (l.eraseIdx i) ∧ S' = [] := by
  subst hn
  refine Spec.of (nt := 33) (res := [.tmp 6]) Try.func94 rfl (by kernel_rfl) rfl rfl rfl fun Sf => ?_
  have h1 : ((i : Int) + 1) = ((i + 1 : Nat) : Int) := by omega
  (repeat refine WF ?_); refine AWP.region ?_; (repeat (first | refine WO ?_ | refine All.i fun X => ?_ | refine AllY.i fun Y => ?_)); refine AOps.nil ?_; (repeat refine WN ?_)
  (repeat refine WF ?_); refine AWP.region ?_; (repeat (first | (refine AOps.gN ?_; first | refine AOps.p (W.slice3 (lo := i) (hi := i + 1) (mx := l.length) rfl rfl rfl rfl (by exact At.f) rfl h1 rfl (by omega) (by omega) (Nat.le_refl _)) rfl ?_) | refine WO ?_ | refine All.i fun X => ?_ | refine AllY.i fun Y => ?_)); refine AOps.nil ?_; (repeat refine WN ?_)
  (repeat refine WF ?_); refine AWP.region ?_; (repeat (first | refine WO ?_ | refine All.i fun X => ?_ | refine AllY.i fun Y => ?_)); refine AOps.nil ?_; (repeat refine WN ?_)
  refine AWP.cond_f rfl (decide_eq_false (by omega)) ?_
  (repeat refine WF ?_); refine AWP.region ?_; (repeat (first | refine WO ?_ | refine All.i fun X => ?_ | refine AllY.i fun Y => ?_)); refine AOps.nil ?_; (repeat refine WN ?_)
  have hel : (l.eraseIdx i).length = l.length - 1 := List.length_eraseIdx_of_lt hi
  rcases Nat.lt_or_ge (i + 1) l.length with hj | hj
  · have hp := eraseIdx_parts hi
    (repeat refine WF ?_); refine AWP.region_run (by kernel_rfl) (by kernel_rfl) ?_; (repeat (first | (refine RGo.gN ?_; first | refine RGo.p (W.hi rfl rfl (by exact At.f) rfl (by omega)) rfl ?_ | refine RGo.p (W.slice_lo (lo := i + 1) rfl rfl (by exact At.f) h1 (by omega)) rfl ?_ | refine RGo.s (W.appS (l.length - (i + 1)) (by omega) (by omega) (by omega) hfr hw rfl rfl (by exact At.f)) rfl ?_) | (refine RGo.gQ ?_; first | refine RGo.p (W.hi rfl rfl (by exact At.f) rfl (by omega)) rfl ?_ | refine RGo.p (W.slice_lo (lo := i + 1) rfl rfl (by exact At.f) h1 (by omega)) rfl ?_ | refine RGo.s (W.appS (l.length - (i + 1)) (by omega) (by omega) (by omega) hfr hw rfl rfl (by exact At.f)) rfl ?_) | refine RK ?_ | refine RGo.nil (by kernel_rfl) ?_))
    rw [Nat.zero_add]
    have hln : i + (l.length - (i + 1)) = l.length - 1 := by omega
    have hLl : (l.take i ++ (l.drop (i + 1)).take (l.length - (i + 1)) ++ l.drop (i + (l.length - (i + 1)))).length = l.length := by simp only [List.length_append, List.length_take, List.length_drop]; omega
    have hLp := hp (l.drop (i + (l.length - (i + 1))))
    obtain ⟨L', hL'⟩ : ∃ L', l.take i ++ (l.drop (i + 1)).take (l.length - (i + 1)) ++ l.drop (i + (l.length - (i + 1))) = L' := ⟨_, rfl⟩
    rw [hL'] at hLl hLp ⊢
    have key : ∀ Z D, ((L'.take (i + (l.length - (i + 1))) ++ Z) ++ D).take (i + (l.length - (i + 1))) = l.eraseIdx i := fun Z D => by
      rw [List.append_assoc, List.take_append_of_le_length (by rw [List.length_take]; omega), List.take_take, Nat.min_self, hLp]
    (repeat refine WF ?_); refine AWP.region ?_; (repeat (first | (refine AOps.gN ?_; first | refine AOps.p (W.lohi (lo := i + (l.length - (i + 1))) (hi := l.length) rfl rfl rfl (by exact At.f) rfl rfl (by omega) (by omega)) rfl ?_ | refine AOps.s (W.clear rfl (by exact At.f) (by first | exact .inl rfl | exact .inr rfl) rfl (by omega)) rfl ?_) | refine WO ?_ | refine All.i fun X => ?_ | refine AllY.i fun Y => ?_)); refine AOps.nil ?_; (repeat refine WN ?_)
    (repeat refine WF ?_); refine AWP.region ?_; (repeat (first | refine WO ?_ | refine All.i fun X => ?_ | refine AllY.i fun Y => ?_)); refine AOps.nil ?_; (repeat refine WN ?_)
    refine AWP.shrink (X := X) (i + (l.length - (i + 1))) ?_
    rw [Nat.zero_add, key]
    (refine AWP.ret ?_; (repeat (first | refine inB_r ?_ | refine andThen_r ?_)); refine retQ_r ?_)
    exact ⟨[.sl X 0 (i + (l.length - (i + 1)))], [.lst true 3 1 (l.eraseIdx i)], _, [], .cons (.tmp rfl) rfl .nil, .cons (.cell (.sl (p := 0) .here (by rw [hel]; omega))) .nil, by exact Sub.f, rfl, rfl⟩
  · have hie : i = l.length - 1 := by omega
    have hl0 : l.length - (i + 1) = 0 := by omega
    have hle : l.eraseIdx i = l.take i := by rw [List.eraseIdx_eq_take_drop_succ, List.drop_of_length_le (by omega), List.append_nil]
    have key : ∀ Z D, ((l.take i ++ Z) ++ D).take i = l.eraseIdx i := fun Z D => by
      rw [List.append_assoc, List.take_append_of_le_length (by rw [List.length_take]; omega), List.take_take, Nat.min_self, hle]
    (repeat refine WF ?_); refine AWP.region_run (by kernel_rfl) (by kernel_rfl) ?_; (repeat (first | (refine RGo.gN ?_; first | refine RGo.p (W.hi rfl rfl (by exact At.f) rfl (by omega)) rfl ?_ | (refine RGo.p (W.slice_lo (lo := i + 1) rfl rfl (by exact At.f) h1 (by omega)) rfl ?_; rw [hl0]) | refine RGo.p (W.app0 rfl rfl (by exact At.f)) rfl ?_) | (refine RGo.gQ ?_; first | refine RGo.p (W.hi rfl rfl (by exact At.f) rfl (by omega)) rfl ?_ | (refine RGo.p (W.slice_lo (lo := i + 1) rfl rfl (by exact At.f) h1 (by omega)) rfl ?_; rw [hl0]) | refine RGo.p (W.app0 rfl rfl (by exact At.f)) rfl ?_) | refine RK ?_ | refine RGo.nil (by kernel_rfl) ?_))
    (repeat refine WF ?_); refine AWP.region ?_; (repeat (first | (refine AOps.gN ?_; first | refine AOps.p (W.lohi (lo := i) (hi := l.length) rfl rfl rfl (by exact At.f) rfl rfl (by omega) (by omega)) rfl ?_ | refine AOps.s (W.clear rfl (by exact At.f) (by first | exact .inl rfl | exact .inr rfl) rfl (by omega)) rfl ?_) | refine WO ?_ | refine All.i fun X => ?_ | refine AllY.i fun Y => ?_)); refine AOps.nil ?_; (repeat refine WN ?_)
    (repeat refine WF ?_); refine AWP.region ?_; (repeat (first | refine WO ?_ | refine All.i fun X => ?_ | refine AllY.i fun Y => ?_)); refine AOps.nil ?_; (repeat refine WN ?_)
    refine AWP.shrink (X := X) i ?_
    simp only [Nat.zero_add]
    rw [key]
    (refine AWP.ret ?_; (repeat (first | refine inB_r ?_ | refine andThen_r ?_)); refine retQ_r ?_)
    exact ⟨[.sl X 0 i], [.lst true 3 1 (l.eraseIdx i)], _, [], .cons (.tmp rfl) rfl .nil, .cons (.cell (.sl (p := 0) .here (by rw [hel]; omega))) .nil, by exact Sub.f, rfl, rfl⟩
end Go.Proofs.Ytfkppbkipbbmaaa

namespace Go.Proofs.Ytfkppbkipbbmaaa
set_option linter.unusedVariables false
theorem compsAt_next {ks : List Kind} {m : Move} {i j : Int} {l : List Comp} {q : Nat} {c : Comp} (h : q < l.length) (e : l[q] = c) : compsAt ks m i j (l.take (q + 1)) = compsAt ks m i j (l.take q) ++ (compOne ks m i j c).toList := by
  unfold compsAt
  rw [List.take_succ_eq_append_getElem h, List.filterMap_append, e]
  congr 1
/-- What comps asks of the components of the kind that is changed. -/
def CompFit (ks : List Kind) (m : Move) (i j : Int) (c : Comp) : Prop :=
  c.kind = i → (m.act = 4 → ∃ j' : Nat, j = j' ∧ j' < c.vals.length) ∧ (m.act = 6 → ∃ (i' j' : Nat) (k : Kind) (f : Field), i = i' ∧ j = j' ∧ ks[i']? = some k ∧ k.fields[j']? = some f ∧ j' < c.vals.length)
theorem ints_free (l : List Int) : FreeL (l.map iA) := fun x hx => by
  obtain ⟨f, _, rfl⟩ := List.mem_map.1 hx
  exact FreeE.prim _
set_option maxRecDepth 8000 in
set_option maxHeartbeats 4000000 in
theorem comps_mps (ks : List Kind) (m : Move) (i j : Int) (l : List Comp) (hl : l.length ≤ 1099511627776) (hv : ∀ c ∈ l, c.vals.length ≤ 1099511627775) (hk : ∀ c ∈ l, -1 ≤ c.kind ∧ c.kind ≤ 1099511627776) (hf : ∀ c ∈ l, CompFit ks m i j c) :
    PS Try.prog 55 [compsA false false l, kindsA false false ks, moveA false m, iA i, iA j] (compsA true false (compsAt ks m i j l)) := by
  refine Spec.of (nt := 101) (res := [.tmp 10]) Try.func55 rfl (by kernel_rfl) rfl rfl rfl fun Sf => ?_
  have hlm : (l.map (compA false)).length = l.length := List.length_map _
  (repeat refine WF ?_); refine AWP.region ?_; (repeat (first | (refine AOps.gN ?_; first | (refine AOps.g_box ?_; refine AOps.goB ?_)) | refine WO ?_ | refine All.i fun X => ?_ | refine AllY.i fun Y => ?_)); refine AOps.nil ?_; (repeat refine WN ?_)
  (repeat refine WF ?_); refine AWP.region ?_; (repeat (first | refine WO ?_ | refine All.i fun X => ?_ | refine AllY.i fun Y => ?_)); refine AOps.nil ?_; (repeat refine WN ?_)
  refine AWP.adopt (d := 11) 141 2 rfl fun O => ?_
  (repeat (first | refine WK ?_ | refine All.i fun X => ?_ | refine AllY.i fun Y => ?_))
  refine AWP.lp4 (fun (q O n : Nat) (M : List AV) => ⟨[(1, kindsA false false ks), (3, iA i), (4, iA j), (7, .fp (moveA false m).cells), (11, .sl O 0 n), (14, compsA false false l), (15, iA (l.map (compA false)).length), (16, iA q)], (O, .row 141 2 M) :: Sf⟩) (fun q _ n M => q ≤ l.length ∧ n = M.length ∧ n ≤ q ∧ M = (compsAt ks m i j (l.take q)).map (compA false)) (fun q _ _ _ => l.length - q) 0 O 0 [] ⟨Nat.zero_le _, rfl, Nat.le_refl _, rfl⟩ ?_
  rintro q O n M ⟨hq, hn, hnq, hM⟩
  (repeat (first | refine WK ?_ | refine All.i fun X => ?_ | refine AllY.i fun Y => ?_))
  refine AWP.cond rfl (fun hc => ?_) (fun hc => ?_)
  · have h : q < l.length := by rw [decide_eq_true_eq, hlm] at hc; omega
    obtain ⟨c, hcq⟩ : ∃ c, l[q] = c := ⟨_, rfl⟩
    have hcm : c ∈ l := hcq ▸ List.getElem_mem h
    have hnx := compsAt_next (ks := ks) (m := m) (i := i) (j := j) h hcq
    have hvc := hv c hcm
    have hkc := hk c hcm
    have hfc := hf c hcm
    obtain ⟨ck, cv⟩ := c
    have hat : (l.map (compA false))[q]? = some (compA false ⟨ck, cv⟩) := by rw [List.getElem?_map, List.getElem?_eq_getElem h, hcq]; rfl
    dsimp only at hvc hkc hfc
    have hn1 : n + 1 ≤ 1099511627776 := by omega
    obtain ⟨act, mk, mf, mn, mv, new, whole⟩ := m
    have hvm : (cv.map iA).length = cv.length := List.length_map _
    (repeat (first | refine WK ?_ | refine All.i fun V => ?_ | refine AllY.i fun Y => ?_))
    rcases Bool.eq_false_or_eq_true (decide (act = 1)) with a1 | a1
    · have h1 : act = 1 := by simpa using a1
      have a3 : decide (act = 3) = false := decide_eq_false (by omega)
      have a4 : decide (act = 4) = false := decide_eq_false (by omega)
      have a6 : decide (act = 6) = false := decide_eq_false (by omega)
      rcases Bool.eq_false_or_eq_true (decide (ck = i)) with g1 | g1
      · have hck : ck = i := by simpa using g1
        have hco : compOne ks ⟨act, mk, mf, mn, mv, new, whole⟩ i j ⟨ck, cv⟩ = none := by
          unfold compOne
          rw [if_pos ⟨h1, hck⟩]
        rw [hco] at hnx
        have ga : (decide (act = 1) && decide (ck = i)) = true := by rw [a1, g1]; rfl
        (repeat (first | refine WK ?_ | refine All.i fun X => ?_ | refine AllY.i fun Y => ?_))
        refine AWP.cond_t rfl (by first | rfl | assumption) ?_
        (repeat (first | refine WK ?_ | refine All.i fun X => ?_ | refine AllY.i fun Y => ?_))
        refine lp_next4 (q + 1) O n M ⟨h, hn, by omega, ?_⟩
        rw [hnx, hM]; simp
      · have hck : ck ≠ i := by simpa using g1
        have ga : (decide (act = 1) && decide (ck = i)) = false := by rw [a1, g1]; rfl
        (repeat (first | refine WK ?_ | refine All.i fun X => ?_ | refine AllY.i fun Y => ?_))
        refine AWP.cond_f rfl (by first | rfl | assumption) ?_
        rcases Bool.eq_false_or_eq_true (decide (i < ck)) with g2 | g2
        · have hci : i < ck := by simpa using g2
          have hco : compOne ks ⟨act, mk, mf, mn, mv, new, whole⟩ i j ⟨ck, cv⟩ = some ⟨ck - 1, cv⟩ := by
            unfold compOne
            rw [if_neg (by simp [hck]), if_pos ⟨h1, hci⟩]
          rw [hco] at hnx
          have gb : (decide (act = 1) && decide (i < ck)) = true := by rw [a1, g2]; rfl
          (repeat (first | refine WK ?_ | refine All.i fun X => ?_ | refine AllY.i fun Y => ?_))
          refine AWP.cond_t rfl (by first | rfl | assumption) ?_
          (repeat (first | (refine AOps.gN ?_; first | refine AOps.p (W.subE (ck - 1) rfl (by omega) rfl rfl) rfl ?_) | refine WK ?_ | refine All.i fun X => ?_ | refine AllY.i fun Y => ?_))
          refine AWP.cond rfl (fun hd => ?_) (fun hd => ?_)
          · (repeat (first | refine WK ?_ | refine All.i fun X => ?_ | refine AllY.i fun Y => ?_))
            refine AWP.cond_f rfl (by first | rfl | assumption) ?_
            (repeat (first | refine WK ?_ | refine All.i fun X => ?_ | refine AllY.i fun Y => ?_))
            refine AWP.cond_f rfl (by first | rfl | assumption) ?_
            (repeat (first | refine WK ?_ | refine All.i fun X => ?_ | refine AllY.i fun Y => ?_))
            refine AWP.cond_f rfl (by first | rfl | assumption) ?_
            (repeat (first | (refine AOps.gN ?_; first | (refine AOps.g_lit ?_; refine AOps.goL (compA false ⟨ck - 1, cv⟩) ?_)) | refine WK ?_ | refine All.i fun X => ?_ | refine AllY.i fun Y => ?_))
            refine lp_next4 (q + 1) Y _ _ ⟨h, ?_, ?_, ?_⟩
            · rw [List.length_append, ← hn]
            · show n + 1 ≤ q + 1; omega
            · rw [hnx, hM, List.map_append]; rfl
          · (repeat (first | refine WK ?_ | refine All.i fun X => ?_ | refine AllY.i fun Y => ?_))
            (repeat (first | (refine AOps.gN ?_; first | (refine AOps.g_lit ?_; refine AOps.goL (compA false ⟨ck - 1, cv⟩) ?_)) | refine WK ?_ | refine All.i fun X => ?_ | refine AllY.i fun Y => ?_))
            refine lp_next4 (q + 1) Y _ _ ⟨h, ?_, ?_, ?_⟩
            · rw [List.length_append, ← hn]
            · show n + 1 ≤ q + 1; omega
            · rw [hnx, hM, List.map_append]; rfl
        · have hci : ¬ i < ck := by simpa using g2
          have hco : compOne ks ⟨act, mk, mf, mn, mv, new, whole⟩ i j ⟨ck, cv⟩ = some ⟨ck, cv⟩ := by
            unfold compOne
            rw [if_neg (by simp [hck]), if_neg (by simp [hci]), if_neg hck]
          rw [hco] at hnx
          have gb : (decide (act = 1) && decide (i < ck)) = false := by rw [a1, g2]; rfl
          (repeat (first | refine WK ?_ | refine All.i fun X => ?_ | refine AllY.i fun Y => ?_))
          refine AWP.cond_f rfl (by first | rfl | assumption) ?_
          (repeat (first | refine WK ?_ | refine All.i fun X => ?_ | refine AllY.i fun Y => ?_))
          refine AWP.cond_f rfl g1 ?_
          (repeat (first | (refine AOps.gN ?_; first | (refine AOps.g_lit ?_; refine AOps.goL (compA false ⟨ck, cv⟩) ?_)) | refine WK ?_ | refine All.i fun X => ?_ | refine AllY.i fun Y => ?_))
          refine lp_next4 (q + 1) Y _ _ ⟨h, ?_, ?_, ?_⟩
          · rw [List.length_append, ← hn]
          · show n + 1 ≤ q + 1; omega
          · rw [hnx, hM, List.map_append]; rfl
    · have h1 : act ≠ 1 := by simpa using a1
      have ga : (decide (act = 1) && decide (ck = i)) = false := by rw [a1]; rfl
      have gb : (decide (act = 1) && decide (i < ck)) = false := by rw [a1]; rfl
      (repeat (first | refine WK ?_ | refine All.i fun X => ?_ | refine AllY.i fun Y => ?_))
      refine AWP.cond_f rfl (by first | rfl | assumption) ?_
      (repeat (first | refine WK ?_ | refine All.i fun X => ?_ | refine AllY.i fun Y => ?_))
      refine AWP.cond_f rfl (by first | rfl | assumption) ?_
      (repeat (first | refine WK ?_ | refine All.i fun X => ?_ | refine AllY.i fun Y => ?_))
      rcases Bool.eq_false_or_eq_true (decide (ck = i)) with g1 | g1
      · have hck : ck = i := by simpa using g1
        refine AWP.cond_t rfl g1 ?_
        rcases Bool.eq_false_or_eq_true (decide (act = 3)) with a3 | a3
        · have h3 : act = 3 := by simpa using a3
          have hco : compOne ks ⟨act, mk, mf, mn, mv, new, whole⟩ i j ⟨ck, cv⟩ = some ⟨ck, cv ++ [nearOf new mv]⟩ := by
            unfold compOne
            rw [if_neg (by simp [h1]), if_neg (by simp [h1]), if_pos hck, if_pos h3]
          rw [hco] at hnx
          have hcl := cloneI_ps cv (by omega)
          (repeat (first | refine WK ?_ | refine All.i fun X => ?_ | refine AllY.i fun Y => ?_))
          refine AWP.cond_t rfl a3 ?_
          refine AWP.rs fun Y2 => AWP.rs fun Y1 => ?_
          have hb : ((cv.map iA).length + [iA (nearOf new mv)].length) * 8 ≤ 140737488355328 := by simp; omega
          (repeat refine WF ?_); refine AWP.region_run (by kernel_rfl) (by kernel_rfl) ?_; (repeat (first | (refine RGo.gN ?_; first | (refine RGo.g_callf ?_; first | refine RGo.c2 (h := (near_ps ..)) (k := ?_)) | refine RGo.t1 (h := hcl) (k := ?_) | (refine RGo.g_lit ?_; refine RGo.goL (iA (nearOf new mv)) ?_)) | (refine RGo.gQ ?_; first | (refine RGo.g_callf ?_; first | refine RGo.c2 (h := (near_ps ..)) (k := ?_)) | refine RGo.t1 (h := hcl) (k := ?_) | (refine RGo.g_lit ?_; refine RGo.goL (iA (nearOf new mv)) ?_)) | refine RK ?_ | refine RGo.nil (by kernel_rfl) ?_))
          (repeat refine WF ?_)
          have hfz : AV.frzs (cv.map iA ++ [iA (nearOf new mv)]) = (cv ++ [nearOf new mv]).map iA := by rw [List.map_append, frzs_map, List.map_append, List.map_map]; rfl
          refine AWP.iceX Y2 ((cv ++ [nearOf new mv]).map iA) hfz (.cons (.agg (.cons .same (.cons (.base .sl) .nil))) .nil) ?_
          (repeat (first | (refine AOps.gN ?_; first | (refine AOps.g_lit ?_; refine AOps.goL (compA false ⟨ck, cv ++ [nearOf new mv]⟩) ?_)) | refine WK ?_ | refine All.i fun X => ?_ | refine AllY.i fun Y => ?_))
          refine lp_next4 (q + 1) Y _ _ ⟨h, ?_, ?_, ?_⟩
          · rw [List.length_append, ← hn]
          · show n + 1 ≤ q + 1; omega
          · rw [hnx, hM, List.map_append]; rfl
        · have h3 : act ≠ 3 := by simpa using a3
          (repeat (first | refine WK ?_ | refine All.i fun X => ?_ | refine AllY.i fun Y => ?_))
          refine AWP.cond_f rfl a3 ?_
          rcases Bool.eq_false_or_eq_true (decide (act = 4)) with a4 | a4
          · have h4 : act = 4 := by simpa using a4
            obtain ⟨j', hj', hjl⟩ := (hfc hck).1 h4
            subst hj'
            have hco : compOne ks ⟨act, mk, mf, mn, mv, new, whole⟩ i (j' : Int) ⟨ck, cv⟩ = some ⟨ck, cv.eraseIdx j'⟩ := by
              unfold compOne
              rw [if_neg (by simp [h1]), if_neg (by simp [h1]), if_pos hck, if_neg h3, if_pos h4, Int.toNat_natCast]
            rw [hco] at hnx
            have hcl := cloneI_ps cv (by omega)
            have hj40 : j' ≤ 1099511627776 := by dsimp only at hjl; omega
            dsimp only at hjl
            have hjm : j' < (cv.map iA).length := by omega
            (repeat (first | refine WK ?_ | refine All.i fun X => ?_ | refine AllY.i fun Y => ?_))
            refine AWP.cond_t rfl a4 ?_
            refine AWP.rs fun Y2 => ?_
            (repeat refine WF ?_); refine AWP.region ?_; (repeat (first | (refine AOps.gN ?_; first | (refine AOps.g_callf ?_; first | refine AOps.t1 (h := hcl) fun Y1 => ?_)) | refine WO ?_ | refine All.i fun X => ?_ | refine AllY.i fun Y => ?_))
            have hdel := (deleteI_sp Y1 (cv.map iA).length j' (cv.map iA) rfl hjm (by omega) (ints_free cv) (fun x hx => by obtain ⟨y, _, rfl⟩ := List.mem_map.1 hx; rfl)).used
            refine AOps.z3 (h := hdel) (hT := .ls (Y := Y2)) (k := ?_)
            (repeat (first | refine WO ?_ | refine All.i fun X => ?_ | refine AllY.i fun Y => ?_))
            (repeat first | refine AOps.nil ?_ | refine WF ?_)
            have hfz : AV.frzs ((cv.map iA).eraseIdx j') = (cv.eraseIdx j').map iA := by rw [eraseIdx_map, frzs_map, List.map_map]; rfl
            refine AWP.iceX Y2 ((cv.eraseIdx j').map iA) hfz (.cons (.agg (.cons .same (.cons (.base .sl) .nil))) .nil) ?_
            (repeat (first | (refine AOps.gN ?_; first | (refine AOps.g_lit ?_; refine AOps.goL (compA false ⟨ck, cv.eraseIdx j'⟩) ?_)) | refine WK ?_ | refine All.i fun X => ?_ | refine AllY.i fun Y => ?_))
            refine lp_next4 (q + 1) Y _ _ ⟨h, ?_, ?_, ?_⟩
            · rw [List.length_append, ← hn]
            · show n + 1 ≤ q + 1; omega
            · rw [hnx, hM, List.map_append]; rfl
          · have h4 : act ≠ 4 := by simpa using a4
            (repeat (first | refine WK ?_ | refine All.i fun X => ?_ | refine AllY.i fun Y => ?_))
            refine AWP.cond_f rfl a4 ?_
            rcases Bool.eq_false_or_eq_true (decide (act = 6)) with a6 | a6
            · have h6 : act = 6 := by simpa using a6
              obtain ⟨i', j', k, f, hi', hj', hki, hkj, hjl⟩ := (hfc hck).2 h6
              subst hi' hj'
              dsimp only at hjl
              obtain ⟨v, hv'⟩ : ∃ v, cv[j'] = v := ⟨_, rfl⟩
              have hva : cv[j']? = some v := by rw [List.getElem?_eq_getElem hjl, hv']
              have hco : compOne ks ⟨act, mk, mf, mn, mv, new, whole⟩ (i' : Int) (j' : Int) ⟨ck, cv⟩ = some ⟨ck, cv.set j' (nearOf f v)⟩ := by
                unfold compOne
                rw [if_neg (by simp [h1]), if_neg (by simp [h1]), if_pos hck, if_neg h3, if_neg h4, if_pos h6]; simp only [Int.toNat_natCast, hki, Option.bind_some, hkj, hva]
              rw [hco] at hnx
              have hcl := cloneI_ps cv (by omega)
              have hjm : j' < (cv.map iA).length := by omega
              have hatk : (ks.map (kindA false))[i']? = some (kindA false k) := by rw [List.getElem?_map, hki]; rfl
              have hatf : (k.fields.map fieldA)[j']? = some (fieldA f) := by rw [List.getElem?_map, hkj]; rfl
              have hatv : (cv.map iA)[j']? = some (iA v) := by rw [List.getElem?_map, hva]; rfl
              (repeat (first | refine WK ?_ | refine All.i fun X => ?_ | refine AllY.i fun Y => ?_))
              refine AWP.cond_t rfl a6 ?_
              (repeat refine WF ?_); refine AWP.region ?_; (repeat (first | (refine AOps.gN ?_; first | (refine AOps.g_callf ?_; first | refine AOps.t1 (h := hcl) fun Y1 => ?_)) | refine WO ?_ | refine All.i fun X => ?_ | refine AllY.i fun Y => ?_)); refine AOps.nil ?_; (repeat refine WN ?_)
              (repeat first | refine AOps.nil ?_ | refine WF ?_)
              (repeat refine WF ?_); refine AWP.region_run (by kernel_rfl) (by kernel_rfl) ?_; (repeat (first | (refine RGo.gN ?_; first | (refine RGo.g_callf ?_; first | refine RGo.c2 (h := (near_ps ..)) (k := ?_))) | (refine RGo.gQ ?_; first | (refine RGo.g_callf ?_; first | refine RGo.c2 (h := (near_ps ..)) (k := ?_))) | refine RK ?_ | refine RGo.nil (by kernel_rfl) ?_))
              (repeat refine WF ?_)
              have hfz : AV.frzs ((cv.map iA).set j' (iA (nearOf f v))) = (cv.set j' (nearOf f v)).map iA := by rw [← List.map_set, frzs_map, List.map_map]; rfl
              refine AWP.iceX Y1 ((cv.set j' (nearOf f v)).map iA) hfz (.cons (.agg (.cons .same (.cons (.base .sl) .nil))) .nil) ?_
              (repeat (first | (refine AOps.gN ?_; first | (refine AOps.g_lit ?_; refine AOps.goL (compA false ⟨ck, cv.set j' (nearOf f v)⟩) ?_)) | refine WK ?_ | refine All.i fun X => ?_ | refine AllY.i fun Y => ?_))
              refine lp_next4 (q + 1) Y _ _ ⟨h, ?_, ?_, ?_⟩
              · rw [List.length_append, ← hn]
              · show n + 1 ≤ q + 1; omega
              · rw [hnx, hM, List.map_append]; rfl
            · have h6 : act ≠ 6 := by simpa using a6
              have hco : compOne ks ⟨act, mk, mf, mn, mv, new, whole⟩ i j ⟨ck, cv⟩ = some ⟨ck, cv⟩ := by
                unfold compOne
                rw [if_neg (by simp [h1]), if_neg (by simp [h1]), if_pos hck, if_neg h3, if_neg h4, if_neg h6]
              rw [hco] at hnx
              (repeat (first | refine WK ?_ | refine All.i fun X => ?_ | refine AllY.i fun Y => ?_))
              refine AWP.cond_f rfl a6 ?_
              (repeat (first | (refine AOps.gN ?_; first | (refine AOps.g_lit ?_; refine AOps.goL (compA false ⟨ck, cv⟩) ?_)) | refine WK ?_ | refine All.i fun X => ?_ | refine AllY.i fun Y => ?_))
              refine lp_next4 (q + 1) Y _ _ ⟨h, ?_, ?_, ?_⟩
              · rw [List.length_append, ← hn]
              · show n + 1 ≤ q + 1; omega
              · rw [hnx, hM, List.map_append]; rfl
      · have hck : ck ≠ i := by simpa using g1
        have hco : compOne ks ⟨act, mk, mf, mn, mv, new, whole⟩ i j ⟨ck, cv⟩ = some ⟨ck, cv⟩ := by
          unfold compOne
          rw [if_neg (by simp [hck]), if_neg (by simp [h1]), if_neg hck]
        rw [hco] at hnx
        refine AWP.cond_f rfl g1 ?_
        (repeat (first | (refine AOps.gN ?_; first | (refine AOps.g_lit ?_; refine AOps.goL (compA false ⟨ck, cv⟩) ?_)) | refine WK ?_ | refine All.i fun X => ?_ | refine AllY.i fun Y => ?_))
        refine lp_next4 (q + 1) Y _ _ ⟨h, ?_, ?_, ?_⟩
        · rw [List.length_append, ← hn]
        · show n + 1 ≤ q + 1; omega
        · rw [hnx, hM, List.map_append]; rfl
  · have h : q = l.length := by rw [decide_eq_false_iff_not, hlm] at hc; omega
    rw [h, List.take_length] at hM
    subst hM
    (repeat (first | refine WK ?_ | refine All.i fun X => ?_ | refine AllY.i fun Y => ?_))
    (refine AWP.ret ?_; (repeat (first | refine inB_r ?_ | refine andThen_r ?_)); refine retQ_r ?_)
    exact ⟨[.sl O 0 n], [compsA true false (compsAt ks m i j l)], _, [], .cons (.tmp rfl) rfl .nil, .cons (.cell (.sl (p := 0) .here hn)) .nil, by exact Sub.f, rfl, rfl⟩
end Go.Proofs.Ytfkppbkipbbmaaa

namespace Go.Proofs.Ytfkppbkipbbmaaa
set_option linter.unusedVariables false
theorem entEql (a b c d : Int) (w : World) : (binOp .eql 33 (.agg #[.int .i64 a, .int .i64 b]) (.agg #[.int .i64 c, .int .i64 d])).run Try.prog w = .ok (.bool (decide (a = c) && decide (b = d))) w :=
  eql_two (by kernel_rfl) (by kernel_rfl) (by kernel_rfl) a b c d w
def sameE (a b : Ent) : Bool := decide (a.n = b.n) && decide (a.gen = b.gen)
theorem sameE_dec (a b : Ent) : sameE a b = decide (a = b) := by
  obtain ⟨n, g⟩ := a
  obtain ⟨n', g'⟩ := b
  rw [Bool.eq_iff_iff]
  simp [sameE]
end Go.Proofs.Ytfkppbkipbbmaaa

namespace Go.Proofs.Ytfkppbkipbbmaaa
set_option linter.unusedSimpArgs false
set_option linter.unusedVariables false

def nextV (l : List Int) (n : Int) : Int := if n < 1 then 0 else match l with | [] => 0 | x :: _ => x % n
def nextL (l : List Int) (n : Int) : List Int := if n < 1 then l else l.tail
theorem nextV_range (l : List Int) {n : Int} (h : 1 ≤ n) : 0 ≤ nextV l n ∧ nextV l n < n := by
  unfold nextV
  rw [if_neg (by omega)]
  split
  · omega
  · rename_i x _
    exact ⟨Int.emod_nonneg x (by omega), Int.emod_lt_of_pos x (by omega)⟩
theorem nextL_len (l : List Int) (n : Int) : (nextL l n).length ≤ l.length := by
  unfold nextL
  split
  · exact Nat.le_refl _
  · rw [List.length_tail]; omega

/-- The names of kinds: spot, life, team, goal. -/
def kindName (k : Nat) : List UInt8 := match k with
  | 0 => [115, 112, 111, 116]
  | 1 => [108, 105, 102, 101]
  | 2 => [116, 101, 97, 109]
  | _ => [103, 111, 97, 108]
/-- The names of fields: x, y, z. -/
def fieldName (k : Nat) : List UInt8 := match k with
  | 0 => [120]
  | 1 => [121]
  | _ => [122]
def genField (i : Nat) (l : List Int) : Field × List Int :=
  if nextV (nextL (nextL l 9) 40) 8 = 7 then (⟨fieldName i, 32, -2147483648⟩, nextL (nextL (nextL l 9) 40) 8)
  else (⟨fieldName i, 1 + nextV l 9, nextV (nextL l 9) 40 - 30⟩, nextL (nextL (nextL l 9) 40) 8)
def genFields : Nat → Nat → List Int → List Field × List Int
  | _, 0, l => ([], l)
  | i, c + 1, l => ((genField i l).1 :: (genFields (i + 1) c (genField i l).2).1, (genFields (i + 1) c (genField i l).2).2)
def genKind (k : Nat) (l : List Int) : Kind × List Int :=
  (⟨kindName k, (genFields 0 (1 + nextV l 3).toNat (nextL l 3)).1⟩, (genFields 0 (1 + nextV l 3).toNat (nextL l 3)).2)
def genKindsFrom : Nat → Nat → List Int → List Kind × List Int
  | _, 0, l => ([], l)
  | k, c + 1, l => ((genKind k l).1 :: (genKindsFrom (k + 1) c (genKind k l).2).1, (genKindsFrom (k + 1) c (genKind k l).2).2)
def genKinds (l : List Int) : List Kind × List Int := genKindsFrom 0 (1 + nextV l 4).toNat (nextL l 4)
end Go.Proofs.Ytfkppbkipbbmaaa

namespace Go.Proofs.Ytfkppbkipbbmaaa
set_option linter.unusedVariables false
theorem below_ps (x n : Int) (hn : 1 ≤ n) (h2 : n ≤ 4611686018427387904) : PS Try.prog 31 [iA x, iA n] (iA (x % n)) := by
  refine Spec.of (nt := 14) (res := [.tmp 4]) Try.func31 rfl (by kernel_rfl) rfl rfl rfl fun Sf => ?_
  have h3 : x.tmod n < n := Int.tmod_lt_of_pos _ (by omega)
  have h4 : -n < x.tmod n := by
    have := Int.lt_tmod_of_pos x (b := n) (by omega)
    exact this
  have h5 : x.tmod n = x % n ∨ x.tmod n + n = x % n ∧ x.tmod n < 0 := by
    rw [Int.tmod_eq_emod]
    split
    · exact .inl (by simp)
    · have := Int.emod_nonneg x (b := n) (by omega)
      have := Int.emod_lt_of_pos x (b := n) (by omega)
      refine .inr ?_
      have : ((n.natAbs : Nat) : Int) = n := by omega
      omega
  have h6 := Int.emod_nonneg x (b := n) (by omega)
  (repeat (first | (refine AOps.gN ?_; first | refine AOps.p (W.rem rfl rfl (by omega)) rfl ?_) | refine WK ?_ | refine All.i fun X => ?_ | refine AllY.i fun Y => ?_))
  refine AWP.cond rfl (fun hb => ?_) (fun hb => ?_)
  · have hb : x.tmod n < 0 := by simpa using hb
    (repeat (first | refine WK ?_ | refine All.i fun X => ?_ | refine AllY.i fun Y => ?_))
    (refine AWP.ret ?_; (repeat (first | refine inB_r ?_ | refine andThen_r ?_)); refine retQ_r ?_)
    exact Ends.plain rfl rfl (by exact Sub.f) ⟨by rw [show x.tmod n + n = x % n from by omega], rfl⟩
  · have hb : ¬ x.tmod n < 0 := by simpa using hb
    (repeat (first | refine WK ?_ | refine All.i fun X => ?_ | refine AllY.i fun Y => ?_))
    (refine AWP.ret ?_; (repeat (first | refine inB_r ?_ | refine andThen_r ?_)); refine retQ_r ?_)
    exact Ends.plain rfl rfl (by exact Sub.f) ⟨by rw [show x.tmod n = x % n from by omega], rfl⟩
abbrev streamO (l : List Int) : AO := .row 84 1 [.agg [intsA false l]]
theorem next_po (X : Nat) (l : List Int) (n : Int) (h2 : n ≤ 4611686018427387904) : PO Try.prog 44 [.ptr X 0 0, iA n] X (streamO l) (iA (nextV l n)) (streamO (nextL l n)) := by
  refine Spec.of (nt := 33) (res := [.tmp 4]) Try.func44 rfl (by kernel_rfl) rfl rfl rfl fun Sf => ?_
  (repeat (first | refine WK ?_ | refine All.i fun X => ?_ | refine AllY.i fun Y => ?_))
  refine AWP.cond rfl (fun hb => ?_) (fun hb => ?_)
  · (repeat (first | refine WK ?_ | refine All.i fun X => ?_ | refine AllY.i fun Y => ?_))
    (refine AWP.ret ?_; (repeat (first | refine inB_r ?_ | refine andThen_r ?_)); refine retQ_r ?_)
    have hb : l.length = 0 ∨ n < 1 := by simp only [Bool.or_eq_true, decide_eq_true_eq, List.length_map] at hb; omega
    have e1 : nextV l n = 0 := by
      unfold nextV
      split
      · rfl
      · rcases hb with hb | hb
        · rw [List.length_eq_zero_iff.1 hb]
        · omega
    have e2 : nextL l n = l := by
      unfold nextL
      split
      · rfl
      · rcases hb with hb | hb
        · rw [List.length_eq_zero_iff.1 hb]; rfl
        · omega
    rw [e1, e2]
    exact Ends.plainS rfl rfl (by exact Sub.f) ⟨rfl, rfl⟩
  · have hb : l.length ≠ 0 ∧ 1 ≤ n := by simp only [Bool.or_eq_false_iff, decide_eq_false_iff_not, List.length_map] at hb; omega
    obtain ⟨hb, hn⟩ := hb
    cases l with
    | nil => exact absurd rfl hb
    | cons x l =>
    (repeat (first | (refine AOps.gN ?_; first | refine AOps.p (W.idxL rfl rfl (a := 0) rfl rfl) rfl ?_ | refine AOps.p (W.loL rfl rfl (a := 1) rfl (by simp)) rfl ?_ | refine AOps.p (W.call2 rfl rfl (below_ps _ _ hn h2) rfl) rfl ?_) | refine WK ?_ | refine All.i fun X => ?_ | refine AllY.i fun Y => ?_))
    (refine AWP.ret ?_; (repeat (first | refine inB_r ?_ | refine andThen_r ?_)); refine retQ_r ?_)
    rw [show nextV (x :: l) n = x % n from by unfold nextV; rw [if_neg (by omega)], show nextL (x :: l) n = l from by unfold nextL; rw [if_neg (by omega)]; rfl]
    exact Ends.plainS (S' := [(X, streamO l)]) rfl rfl (by exact Sub.f) ⟨rfl, rfl⟩
end Go.Proofs.Ytfkppbkipbbmaaa
