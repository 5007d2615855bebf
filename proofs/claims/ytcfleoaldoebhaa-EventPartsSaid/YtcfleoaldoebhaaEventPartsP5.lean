/-
  Part 5 of the texts under the law EventParts: the layer of abstract values, walks and plain laws. Conditions: those that each theorem names.
-/
import Derived.WalkKit
import Derived.Lib.Hide
import Derived.Deep.OwnRows
import Derived.Deep.Draws
import Derived.Test.YtcfleoaldoebhaaChecked
import Derived.ProofKit
import Derived.OpenShut
import Derived.ShutString
import Derived.ChangeOld
import Derived.Below
import Derived.SizedLaws
import Derived.Deep.Slices
import Derived.Deep.Fields
import Derived.ChangeSame
import Derived.Test.YtcfleoaldoebhaaProg
import Derived.Test.YtcfleoaldoebhaaEventPartsP4
namespace Go.Proofs.Ytcfleoaldoebhaa
set_option linter.unusedSimpArgs false
set_option linter.unusedVariables false

structure Field where
  name : List UInt8
  bits : Int
  low : Int
structure Kind where
  name : List UInt8
  fields : List Field
structure Ent where
  n : Int
  gen : Int
structure Comp where
  kind : Int
  vals : List Int
structure Item where
  ent : Ent
  comps : List Comp
structure Wd where
  kinds : List Kind
  gens : List Int
  items : List Item
structure Evt where
  sys : Int
  ent : Ent
  val : Int
structure Ref where
  kind : Int
  field : Int
structure Arg where
  has : Bool
  n : Int
  ref : Ref
structure Op where
  act : Int
  to : Ref
  a : Arg
  b : Arg
structure Sys where
  name : List UInt8
  wth : List Int
  wout : List Int
  reads : List Int
  writes : List Int
  ops : List Op
  spawn : List Comp


instance : DecidableEq Field := fun a b => decidable_of_iff (a.name = b.name ∧ a.bits = b.bits ∧ a.low = b.low) (by cases a; cases b; simp)
instance : Inhabited Field := ⟨⟨default, default, default⟩⟩
instance : DecidableEq Kind := fun a b => decidable_of_iff (a.name = b.name ∧ a.fields = b.fields) (by cases a; cases b; simp)
instance : Inhabited Kind := ⟨⟨default, default⟩⟩
instance : DecidableEq Ent := fun a b => decidable_of_iff (a.n = b.n ∧ a.gen = b.gen) (by cases a; cases b; simp)
instance : Inhabited Ent := ⟨⟨default, default⟩⟩
instance : DecidableEq Comp := fun a b => decidable_of_iff (a.kind = b.kind ∧ a.vals = b.vals) (by cases a; cases b; simp)
instance : Inhabited Comp := ⟨⟨default, default⟩⟩
instance : DecidableEq Item := fun a b => decidable_of_iff (a.ent = b.ent ∧ a.comps = b.comps) (by cases a; cases b; simp)
instance : Inhabited Item := ⟨⟨default, default⟩⟩
instance : DecidableEq Wd := fun a b => decidable_of_iff (a.kinds = b.kinds ∧ a.gens = b.gens ∧ a.items = b.items) (by cases a; cases b; simp)
instance : Inhabited Wd := ⟨⟨default, default, default⟩⟩
instance : DecidableEq Evt := fun a b => decidable_of_iff (a.sys = b.sys ∧ a.ent = b.ent ∧ a.val = b.val) (by cases a; cases b; simp)
instance : Inhabited Evt := ⟨⟨default, default, default⟩⟩
instance : DecidableEq Ref := fun a b => decidable_of_iff (a.kind = b.kind ∧ a.field = b.field) (by cases a; cases b; simp)
instance : Inhabited Ref := ⟨⟨default, default⟩⟩
instance : DecidableEq Arg := fun a b => decidable_of_iff (a.has = b.has ∧ a.n = b.n ∧ a.ref = b.ref) (by cases a; cases b; simp)
instance : Inhabited Arg := ⟨⟨default, default, default⟩⟩
instance : DecidableEq Op := fun a b => decidable_of_iff (a.act = b.act ∧ a.to = b.to ∧ a.a = b.a ∧ a.b = b.b) (by cases a; cases b; simp)
instance : Inhabited Op := ⟨⟨default, default, default, default⟩⟩
instance : DecidableEq Sys := fun a b => decidable_of_iff (a.name = b.name ∧ a.wth = b.wth ∧ a.wout = b.wout ∧ a.reads = b.reads ∧ a.writes = b.writes ∧ a.ops = b.ops ∧ a.spawn = b.spawn) (by cases a; cases b; simp)
instance : Inhabited Sys := ⟨⟨default, default, default, default, default, default, default⟩⟩

/-- A number of Go's type int. -/
def I64 (x : Int) : Prop := -9223372036854775808 ≤ x ∧ x ≤ 9223372036854775807
end Go.Proofs.Ytcfleoaldoebhaa

namespace Go.Proofs.Ytcfleoaldoebhaa
set_option linter.unusedSimpArgs false
set_option linter.unusedVariables false
open Go.RowKit

abbrev Reg := Nat → Prop
/-- The blocks that the world holds. -/
def Lt (w : World) : Reg := fun b => b < w.heap.size
/-- The blocks from n on. -/
def Fr (n : Nat) (w : World) : Reg := fun b => n ≤ b ∧ b < w.heap.size
def Same (S : Reg) (w w' : World) : Prop := ∀ b, S b → w'.heap[b]? = w.heap[b]?

section
variable {w w' w'' : World} {S T : Reg}
theorem Same.refl (S : Reg) (w : World) : Same S w w := fun _ _ => rfl
theorem Same.trans (h : Same S w w') (k : Same S w' w'') : Same S w w'' := fun b hb => (k b hb).trans (h b hb)
theorem Same.mono (h : Same S w w') (hT : ∀ b, T b → S b) : Same T w w' := fun b hb => h b (hT b hb)
theorem Same.cell (h : Same S w w') {b : Nat} (hb : S b) (o : Nat) : w'.cell? ⟨b, o, none⟩ = w.cell? ⟨b, o, none⟩ := World.cell?_of_block (w := w) (h b hb)
theorem Same.below {B : Nat} (h : Below B w w') (hB : ∀ b, S b → b < B) : Same S w w' := fun b hb => h.block b (hB b hb)
theorem Same.lt (h : Below w.heap.size w w') : Same (Lt w) w w' := fun b hb => h.block b hb
theorem Same.grown {row : Option Nat} (h : w.grownBy w' row) (hS : ∀ b, S b → b < w.heap.size ∧ some b ≠ row) : Same S w w' := fun b hb => h.block b (hS b hb).1 (hS b hb).2
theorem Same.alloc (w : World) (o : Obj) (hS : ∀ b, S b → b < w.heap.size) : Same S w (w.alloc o) := fun b hb => Below.heap_alloc w o b (hS b hb)
theorem Same.setCell (w : World) {p : Addr} (u : Value) (hS : ∀ b, S b → b ≠ p.block) : Same S w (w.setCell p u) := fun b hb => Below.heap_setCell w p u b (hS b hb)

/-- What a step 'Below' gives the walk as rules: old cells, old marks. -/
theorem lvl {B : Nat} (hb : Below B w w') : (∀ b o, b < B → w'.cell? ⟨b, o, none⟩ = w.cell? ⟨b, o, none⟩) ∧ (∀ b o, b < B → w'.frozen? ⟨b, o, none⟩ = w.frozen? ⟨b, o, none⟩) :=
  ⟨fun b o h => hb.cell (p := ⟨b, o, none⟩) h, fun b o h => hb.frozen (p := ⟨b, o, none⟩) h⟩
/-- The same for every block of the first world. -/
theorem olderB {a c : World} (h : Below a.heap.size a c) : ∀ b, b < a.heap.size → b < c.heap.size ∧ b ≤ c.heap.size ∧ b < c.heap.size + 1 ∧ b < c.heap.size + 2 ∧ b < c.heap.size + 3 ∧ b < c.heap.size + 4 ∧ b ≠ c.heap.size ∧ c.heap.size ≠ b ∧ b ≠ c.heap.size + 1 ∧ c.heap.size + 1 ≠ b ∧ b ≠ c.heap.size + 2 ∧ c.heap.size + 2 ≠ b ∧ b ≠ c.heap.size + 3 ∧ c.heap.size + 3 ≠ b :=
  fun b hb => by have := h.size; omega
theorem belN {n : Nat} {a c : World} (h : Below n a c) (k : Nat) : Below n a (c.drewN k) := ⟨h.os, h.tape, h.output, h.size, h.block⟩
theorem bel {n m : Nat} {a b c : World} (h : Below n a b) (k : Below m b c) (hm : n ≤ m) : Below n a c := h.trans (k.mono hm)
theorem bel0 {n : Nat} {a b c : World} (h : Below n a b) (k : Below b.heap.size b c) (hm : n ≤ b.heap.size) : Below n a c := h.trans (k.mono hm)
theorem bel1 {n : Nat} {a b c : World} {o : Obj} (h : Below n a b) (k : Below (b.alloc o).heap.size (b.alloc o) c) (hm : n ≤ b.heap.size) : Below n a c := (h.alloc hm o).trans (k.mono (by simp; omega))
theorem bel2 {n : Nat} {a b c : World} {o o' : Obj} (h : Below n a b) (k : Below ((b.alloc o).alloc o').heap.size ((b.alloc o).alloc o') c) (hm : n ≤ b.heap.size) : Below n a c := ((h.alloc hm o).alloc (by simp; omega) o').trans (k.mono (by simp; omega))
/-- A block's number beside a later heap's size, in each form that the walk asks. -/
theorem older {b n : Nat} (h : b < n) : b < n ∧ b ≤ n ∧ b < n + 1 ∧ b < n + 2 ∧ b < n + 3 ∧ b < n + 4 ∧ b ≠ n ∧ n ≠ b ∧ b ≠ n + 1 ∧ n + 1 ≠ b ∧ b ≠ n + 2 ∧ n + 2 ≠ b ∧ b ≠ n + 3 ∧ n + 3 ≠ b := by omega

/-- The slice value v holds n elements of sz cells each: the cells xs, in a block of S (none is asked of an empty one). -/
def Row (w : World) (S : Reg) (sz : Nat) (v : Value) (n : Nat) (xs : List Value) : Prop :=
  xs.length = n * sz ∧ ∃ A cap, v = .slice A n cap ∧ n ≤ cap ∧ (0 < n → ∃ b off, A = some ⟨b, off, none⟩ ∧ S b ∧ ∀ j u, xs[j]? = some u → w.cell? ⟨b, off + j, none⟩ = some u)

variable {sz n : Nat} {v : Value} {xs : List Value}
theorem Row.to (h : Row w S sz v n xs) (hST : ∀ b, S b → T b) (hs : Same S w w') : Row w' T sz v n xs := by
  obtain ⟨h1, A, cap, hv, hn, hr⟩ := h
  refine ⟨h1, A, cap, hv, hn, fun h0 => ?_⟩
  obtain ⟨b, off, hA, hb, hc⟩ := hr h0
  exact ⟨b, off, hA, hST b hb, fun j u hu => (hs.cell hb _).trans (hc j u hu)⟩
theorem Row.form (h : Row w S sz v n xs) : ∃ A cap, v = .slice A n cap ∧ n ≤ cap := by
  obtain ⟨_, A, cap, hv, hn, _⟩ := h
  exact ⟨A, cap, hv, hn⟩
theorem Row.nil (w : World) (S : Reg) (sz : Nat) : Row w S sz (.slice none 0 0) 0 [] := ⟨by simp, none, 0, rfl, Nat.le_refl _, fun h => absurd h (by omega)⟩
theorem Row.block {A : Option Addr} {cap : Nat} (h : Row w S sz (.slice A n cap) n xs) (hn : 0 < n) : ∃ b off, A = some ⟨b, off, none⟩ ∧ S b ∧ ∀ j u, xs[j]? = some u → w.cell? ⟨b, off + j, none⟩ = some u := by
  obtain ⟨_, A', cap', hv, _, hr⟩ := h
  injection hv with h1 h2 h3
  subst h1
  exact hr hn
theorem Row.of_own {base : Nat} {e : TypeId} (h : w.ownsRow base e sz v n xs) : Row w (fun b => base ≤ b ∧ b < w.heap.size ∧ v.ownBlock = some b) sz v n xs := by
  refine ⟨h.1, ?_⟩
  rcases h.2 with ⟨rfl, rfl⟩ | ⟨g, cap, cur, rfl, hb, hg, hn, hc, hs, ht⟩
  · exact ⟨none, 0, rfl, Nat.le_refl _, fun h => absurd h (by omega)⟩
  · refine ⟨_, cap, rfl, hn, fun _ => ⟨g, 0, rfl, ⟨hb, lt_of_block hg, rfl⟩, fun j u hu => ?_⟩⟩
    have := h.cells (g := g) rfl j u hu
    rwa [show (⟨g, 0, none⟩ : Addr).add j = ⟨g, 0 + j, none⟩ from by unfold Addr.add; split <;> simp_all] at this
end

/-- The cells xs are those of the data l, sz cells each. -/
def Cells {α : Type} (C : List Value → α → Prop) (sz : Nat) : List Value → List α → Prop
  | xs, [] => xs = []
  | xs, x :: l => ∃ c ys, xs = c ++ ys ∧ c.length = sz ∧ C c x ∧ Cells C sz ys l

section
variable {α : Type} {C C' : List Value → α → Prop} {sz : Nat} {xs ys : List Value} {l m : List α}
theorem Cells.nil : Cells C sz [] [] := rfl
theorem Cells.cons {c : List Value} {x : α} (h1 : c.length = sz) (h2 : C c x) (h3 : Cells C sz xs l) : Cells C sz (c ++ xs) (x :: l) := ⟨c, xs, rfl, h1, h2, h3⟩
theorem Cells.uncons {x : α} (h : Cells C sz xs (x :: l)) : ∃ c ys, xs = c ++ ys ∧ c.length = sz ∧ C c x ∧ Cells C sz ys l := h
theorem Cells.length (h : Cells C sz xs l) : xs.length = l.length * sz := by
  induction l generalizing xs with
  | nil => have : xs = [] := h; simp [this]
  | cons x l ih =>
    obtain ⟨c, ys, rfl, h1, _, h3⟩ := h
    simp [ih h3, h1, Nat.add_mul, Nat.add_comm]
theorem Cells.mono (h : Cells C sz xs l) (hC : ∀ c x, C c x → C' c x) : Cells C' sz xs l := by
  induction l generalizing xs with
  | nil => exact h
  | cons x l ih =>
    obtain ⟨c, ys, rfl, h1, h2, h3⟩ := h
    exact ⟨c, ys, rfl, h1, hC _ _ h2, ih h3⟩
theorem Cells.one {c : List Value} {x : α} (h1 : c.length = sz) (h : C c x) : Cells C sz c [x] := ⟨c, [], by simp, h1, h, rfl⟩
theorem Cells.append (h : Cells C sz xs l) (k : Cells C sz ys m) : Cells C sz (xs ++ ys) (l ++ m) := by
  induction l generalizing xs with
  | nil =>
    have : xs = [] := h
    subst this
    exact k
  | cons x l ih =>
    obtain ⟨c, zs, rfl, h1, h2, h3⟩ := h
    exact ⟨c, zs ++ ys, by simp, h1, h2, ih h3⟩
theorem Cells.split (l : List α) : ∀ {xs : List Value}, Cells C sz xs (l ++ m) → ∃ ys zs, xs = ys ++ zs ∧ Cells C sz ys l ∧ Cells C sz zs m := by
  induction l with
  | nil => intro xs h; exact ⟨[], xs, rfl, rfl, h⟩
  | cons x l ih =>
    intro xs h
    obtain ⟨c, ys, rfl, h1, h2, h3⟩ := Cells.uncons (l := l ++ m) h
    obtain ⟨y1, y2, rfl, h4, h5⟩ := ih h3
    exact ⟨c ++ y1, y2, by simp, .cons h1 h2 h4, h5⟩
theorem Cells.take (h : Cells C sz xs l) (k : Nat) : Cells C sz (xs.take (k * sz)) (l.take k) := by
  have h' : Cells C sz xs (l.take k ++ l.drop k) := by rwa [List.take_append_drop]
  obtain ⟨ys, zs, rfl, h1, h2⟩ := Cells.split _ h'
  rcases Nat.lt_or_ge k l.length with hk | hk
  · have := h1.length
    rw [List.length_take, Nat.min_eq_left (by omega)] at this
    rwa [List.take_append_of_le_length (by omega), List.take_of_length_le (by omega)]
  · have e := h2.length
    rw [List.length_drop, Nat.sub_eq_zero_of_le hk, Nat.zero_mul] at e
    have : zs = [] := List.eq_nil_of_length_eq_zero e
    subst this
    have := h1.length
    rw [List.length_take, Nat.min_eq_right hk] at this
    rw [List.append_nil, List.take_of_length_le (by rw [this]; exact Nat.mul_le_mul_right _ hk)]
    exact h1
theorem Cells.drop (h : Cells C sz xs l) (k : Nat) : Cells C sz (xs.drop (k * sz)) (l.drop k) := by
  have h' : Cells C sz xs (l.take k ++ l.drop k) := by rwa [List.take_append_drop]
  obtain ⟨ys, zs, rfl, h1, h2⟩ := Cells.split _ h'
  rcases Nat.lt_or_ge k l.length with hk | hk
  · have := h1.length
    rw [List.length_take, Nat.min_eq_left (by omega)] at this
    rw [List.drop_append_of_le_length (by omega), List.drop_of_length_le (by omega)]
    simpa using h2
  · have e := h2.length
    rw [List.length_drop, Nat.sub_eq_zero_of_le hk, Nat.zero_mul] at e
    have : zs = [] := List.eq_nil_of_length_eq_zero e
    subst this
    have := h1.length
    rw [List.length_take, Nat.min_eq_right hk] at this
    rw [List.append_nil, List.drop_of_length_le (by rw [this]; exact Nat.mul_le_mul_right _ hk)]
    exact h2
theorem Cells.get (h : Cells C sz xs l) {i : Nat} (hi : i < l.length) : ∃ c, C c l[i] ∧ c.length = sz ∧ ∀ j u, c[j]? = some u → xs[i * sz + j]? = some u := by
  have hd := h.drop i
  rw [List.drop_eq_getElem_cons hi] at hd
  obtain ⟨c, ys, e, h1, h2, h3⟩ := Cells.uncons hd
  refine ⟨c, h2, h1, fun j u hu => ?_⟩
  rw [← List.getElem?_drop, e, List.getElem?_append_left (List.getElem?_eq_some_iff.1 hu).1]
  exact hu
end

/-- The slice value v reads as the list l, each element by C, all in blocks of S. -/
def Sl {α : Type} (w : World) (S : Reg) (sz : Nat) (C : World → Reg → List Value → α → Prop) (v : Value) (l : List α) : Prop :=
  ∃ xs, Row w S sz v l.length xs ∧ Cells (C w S) sz xs l

section
variable {α : Type} {w w' : World} {S T : Reg} {sz : Nat} {C : World → Reg → List Value → α → Prop} {v : Value} {l : List α}
theorem Sl.to (h : Sl w S sz C v l) (hC : ∀ c x, C w S c x → C w' T c x) (hST : ∀ b, S b → T b) (hs : Same S w w') : Sl w' T sz C v l := by
  obtain ⟨xs, h1, h2⟩ := h
  exact ⟨xs, h1.to hST hs, h2.mono hC⟩
theorem Sl.nil (w : World) (S : Reg) (sz : Nat) (C : World → Reg → List Value → α → Prop) : Sl w S sz C (.slice none 0 0) [] := ⟨[], Row.nil w S sz, .nil⟩
theorem Sl.form (h : Sl w S sz C v l) : ∃ A cap, v = .slice A l.length cap ∧ l.length ≤ cap := by
  obtain ⟨xs, h1, _⟩ := h
  exact h1.form
theorem Sl.len {A : Option Addr} {n cap : Nat} (h : Sl w S sz C (.slice A n cap) l) : n = l.length := by
  obtain ⟨A', c', e, _⟩ := h.form
  injection e
theorem Sl.cap {A : Option Addr} {n cap : Nat} (h : Sl w S sz C (.slice A n cap) l) : n ≤ cap := by
  obtain ⟨A', c', e, hc⟩ := h.form
  injection e with _ e1 e2
  omega
theorem Sl.take {A : Option Addr} {n cap k : Nat} (h : Sl w S sz C (.slice A n cap) l) (hk : k ≤ n) : Sl w S sz C (.slice A k cap) (l.take k) := by
  have hc := h.cap
  obtain ⟨xs, h1, h2⟩ := h
  obtain ⟨A', c', e, _⟩ := h1.form
  injection e with e1 e2 e3
  subst e1 e2 e3
  have hl : (l.take k).length = k := by rw [List.length_take]; omega
  refine ⟨xs.take (k * sz), ⟨?_, A, cap, by rw [hl], by omega, fun h0 => ?_⟩, h2.take k⟩
  · rw [hl, List.length_take, h1.1]
    exact Nat.min_eq_left (Nat.mul_le_mul_right _ hk)
  · rw [hl] at h0
    obtain ⟨b, off, hA, hb, hcell⟩ := h1.block (by omega)
    refine ⟨b, off, hA, hb, fun j u hu => hcell j u ?_⟩
    rw [List.getElem?_take] at hu
    split at hu
    · exact hu
    · cases hu
theorem Sl.at {A : Option Addr} {n cap : Nat} (h : Sl w S sz C (.slice A n cap) l) {i : Nat} (hi : i < l.length) : ∃ b off c, A = some ⟨b, off, none⟩ ∧ S b ∧ C w S c l[i] ∧ c.length = sz ∧ ∀ j u, c[j]? = some u → w.cell? ⟨b, off + (i * sz + j), none⟩ = some u := by
  obtain ⟨xs, h1, h2⟩ := h
  obtain ⟨A', cap', hv, _⟩ := h1.form
  injection hv with e1 e2 e3
  subst e1 e2 e3
  obtain ⟨b, off, hA, hb, hc⟩ := h1.block (by omega)
  obtain ⟨c, hc1, hc2, hc3⟩ := h2.get hi
  exact ⟨b, off, c, hA, hb, hc1, hc2, fun j u hu => hc _ _ (hc3 j u hu)⟩
end

/-! ### The program's data in memory -/
abbrev strV (l : List UInt8) : Value := .string ⟨l.toArray⟩
abbrev i64V (x : Int) : Value := .int .i64 x

def intC (_ : World) (_ : Reg) (c : List Value) (x : Int) : Prop := c = [.int .i64 x]
def fieldC (_ : World) (_ : Reg) (c : List Value) (f : Field) : Prop := c = [strV f.name, .int .i64 f.bits, .int .i64 f.low]
def entC (_ : World) (_ : Reg) (c : List Value) (e : Ent) : Prop := c = [.int .i64 e.n, .int .i64 e.gen]
def evtC (_ : World) (_ : Reg) (c : List Value) (e : Evt) : Prop := c = [.int .i64 e.sys, .int .i64 e.ent.n, .int .i64 e.ent.gen, .int .i64 e.val]
abbrev Ints (w : World) (S : Reg) (v : Value) (l : List Int) : Prop := Sl w S 1 intC v l
abbrev Fields (w : World) (S : Reg) (v : Value) (l : List Field) : Prop := Sl w S 3 fieldC v l
abbrev Ents (w : World) (S : Reg) (v : Value) (l : List Ent) : Prop := Sl w S 2 entC v l
abbrev Evts (w : World) (S : Reg) (v : Value) (l : List Evt) : Prop := Sl w S 4 evtC v l
def kindC (w : World) (S : Reg) (c : List Value) (k : Kind) : Prop := ∃ vf, c = [strV k.name, vf] ∧ Fields w S vf k.fields
abbrev Kinds (w : World) (S : Reg) (v : Value) (l : List Kind) : Prop := Sl w S 2 kindC v l
def compC (w : World) (S : Reg) (c : List Value) (x : Comp) : Prop := ∃ v, c = [.int .i64 x.kind, v] ∧ Ints w S v x.vals
abbrev Comps (w : World) (S : Reg) (v : Value) (l : List Comp) : Prop := Sl w S 2 compC v l
def itemC (w : World) (S : Reg) (c : List Value) (x : Item) : Prop := ∃ v, c = [.int .i64 x.ent.n, .int .i64 x.ent.gen, v] ∧ Comps w S v x.comps
abbrev Items (w : World) (S : Reg) (v : Value) (l : List Item) : Prop := Sl w S 3 itemC v l
def wdC (w : World) (S : Reg) (c : List Value) (x : Wd) : Prop := ∃ vk vg vi, c = [vk, vg, vi] ∧ Kinds w S vk x.kinds ∧ Ints w S vg x.gens ∧ Items w S vi x.items
def refCells (r : Ref) : List Value := [.int .i64 r.kind, .int .i64 r.field]
def argCells (a : Arg) : List Value := [.bool a.has, .int .i64 a.n, .int .i64 a.ref.kind, .int .i64 a.ref.field]
def opC (_ : World) (_ : Reg) (c : List Value) (o : Op) : Prop := c = [.int .i64 o.act, .int .i64 o.to.kind, .int .i64 o.to.field, .bool o.a.has, .int .i64 o.a.n, .int .i64 o.a.ref.kind, .int .i64 o.a.ref.field, .bool o.b.has, .int .i64 o.b.n, .int .i64 o.b.ref.kind, .int .i64 o.b.ref.field]
abbrev Ops (w : World) (S : Reg) (v : Value) (l : List Op) : Prop := Sl w S 11 opC v l
def sysC (w : World) (S : Reg) (c : List Value) (x : Sys) : Prop := ∃ v1 v2 v3 v4 v5 v6, c = [strV x.name, v1, v2, v3, v4, v5, v6] ∧ Ints w S v1 x.wth ∧ Ints w S v2 x.wout ∧ Ints w S v3 x.reads ∧ Ints w S v4 x.writes ∧ Ops w S v5 x.ops ∧ Comps w S v6 x.spawn
abbrev Syss (w : World) (S : Reg) (v : Value) (l : List Sys) : Prop := Sl w S 7 sysC v l

section
variable {w w' : World} {S T : Reg} {v : Value}
theorem Ints.to {l : List Int} (h : Ints w S v l) (hST : ∀ b, S b → T b) (hs : Same S w w') : Ints w' T v l := Sl.to h (fun _ _ h => h) hST hs
theorem Fields.to {l : List Field} (h : Fields w S v l) (hST : ∀ b, S b → T b) (hs : Same S w w') : Fields w' T v l := Sl.to h (fun _ _ h => h) hST hs
theorem Ents.to {l : List Ent} (h : Ents w S v l) (hST : ∀ b, S b → T b) (hs : Same S w w') : Ents w' T v l := Sl.to h (fun _ _ h => h) hST hs
theorem Evts.to {l : List Evt} (h : Evts w S v l) (hST : ∀ b, S b → T b) (hs : Same S w w') : Evts w' T v l := Sl.to h (fun _ _ h => h) hST hs
theorem Ops.to {l : List Op} (h : Ops w S v l) (hST : ∀ b, S b → T b) (hs : Same S w w') : Ops w' T v l := Sl.to h (fun _ _ h => h) hST hs
theorem kindC.to {c : List Value} {x : Kind} (h : kindC w S c x) (hST : ∀ b, S b → T b) (hs : Same S w w') : kindC w' T c x := by
  obtain ⟨vf, e, h⟩ := h
  exact ⟨vf, e, Fields.to h hST hs⟩
theorem Kinds.to {l : List Kind} (h : Kinds w S v l) (hST : ∀ b, S b → T b) (hs : Same S w w') : Kinds w' T v l := Sl.to h (fun _ _ h => h.to hST hs) hST hs
theorem compC.to {c : List Value} {x : Comp} (h : compC w S c x) (hST : ∀ b, S b → T b) (hs : Same S w w') : compC w' T c x := by
  obtain ⟨v, e, h⟩ := h
  exact ⟨v, e, Ints.to h hST hs⟩
theorem Comps.to {l : List Comp} (h : Comps w S v l) (hST : ∀ b, S b → T b) (hs : Same S w w') : Comps w' T v l := Sl.to h (fun _ _ h => h.to hST hs) hST hs
theorem itemC.to {c : List Value} {x : Item} (h : itemC w S c x) (hST : ∀ b, S b → T b) (hs : Same S w w') : itemC w' T c x := by
  obtain ⟨v, e, h⟩ := h
  exact ⟨v, e, Comps.to h hST hs⟩
theorem Items.to {l : List Item} (h : Items w S v l) (hST : ∀ b, S b → T b) (hs : Same S w w') : Items w' T v l := Sl.to h (fun _ _ h => h.to hST hs) hST hs
theorem wdC.to {c : List Value} {x : Wd} (h : wdC w S c x) (hST : ∀ b, S b → T b) (hs : Same S w w') : wdC w' T c x := by
  obtain ⟨vk, vg, vi, e, h1, h2, h3⟩ := h
  exact ⟨vk, vg, vi, e, Kinds.to h1 hST hs, Ints.to h2 hST hs, Items.to h3 hST hs⟩
theorem sysC.to {c : List Value} {x : Sys} (h : sysC w S c x) (hST : ∀ b, S b → T b) (hs : Same S w w') : sysC w' T c x := by
  obtain ⟨v1, v2, v3, v4, v5, v6, e, h1, h2, h3, h4, h5, h6⟩ := h
  exact ⟨v1, v2, v3, v4, v5, v6, e, Ints.to h1 hST hs, Ints.to h2 hST hs, Ints.to h3 hST hs, Ints.to h4 hST hs, Ops.to h5 hST hs, Comps.to h6 hST hs⟩
theorem Syss.to {l : List Sys} (h : Syss w S v l) (hST : ∀ b, S b → T b) (hs : Same S w w') : Syss w' T v l := Sl.to h (fun _ _ h => h.to hST hs) hST hs

/-! what was readable stays readable while nothing old turns -/
theorem Ints.up {l : List Int} (h : Ints w (Lt w) v l) (hb : Below w.heap.size w w') : Ints w' (Lt w') v l := h.to (fun b hb' => Nat.lt_of_lt_of_le hb' hb.size) (Same.lt hb)
theorem Fields.up {l : List Field} (h : Fields w (Lt w) v l) (hb : Below w.heap.size w w') : Fields w' (Lt w') v l := h.to (fun b hb' => Nat.lt_of_lt_of_le hb' hb.size) (Same.lt hb)
theorem Ents.up {l : List Ent} (h : Ents w (Lt w) v l) (hb : Below w.heap.size w w') : Ents w' (Lt w') v l := h.to (fun b hb' => Nat.lt_of_lt_of_le hb' hb.size) (Same.lt hb)
theorem Evts.up {l : List Evt} (h : Evts w (Lt w) v l) (hb : Below w.heap.size w w') : Evts w' (Lt w') v l := h.to (fun b hb' => Nat.lt_of_lt_of_le hb' hb.size) (Same.lt hb)
theorem Ops.up {l : List Op} (h : Ops w (Lt w) v l) (hb : Below w.heap.size w w') : Ops w' (Lt w') v l := h.to (fun b hb' => Nat.lt_of_lt_of_le hb' hb.size) (Same.lt hb)
theorem Kinds.up {l : List Kind} (h : Kinds w (Lt w) v l) (hb : Below w.heap.size w w') : Kinds w' (Lt w') v l := h.to (fun b hb' => Nat.lt_of_lt_of_le hb' hb.size) (Same.lt hb)
theorem Comps.up {l : List Comp} (h : Comps w (Lt w) v l) (hb : Below w.heap.size w w') : Comps w' (Lt w') v l := h.to (fun b hb' => Nat.lt_of_lt_of_le hb' hb.size) (Same.lt hb)
theorem Items.up {l : List Item} (h : Items w (Lt w) v l) (hb : Below w.heap.size w w') : Items w' (Lt w') v l := h.to (fun b hb' => Nat.lt_of_lt_of_le hb' hb.size) (Same.lt hb)
theorem Syss.up {l : List Sys} (h : Syss w (Lt w) v l) (hb : Below w.heap.size w w') : Syss w' (Lt w') v l := h.to (fun b hb' => Nat.lt_of_lt_of_le hb' hb.size) (Same.lt hb)
theorem kindC.up {c : List Value} {x : Kind} (h : kindC w (Lt w) c x) (hb : Below w.heap.size w w') : kindC w' (Lt w') c x := h.to (fun b hb' => Nat.lt_of_lt_of_le hb' hb.size) (Same.lt hb)
theorem compC.up {c : List Value} {x : Comp} (h : compC w (Lt w) c x) (hb : Below w.heap.size w w') : compC w' (Lt w') c x := h.to (fun b hb' => Nat.lt_of_lt_of_le hb' hb.size) (Same.lt hb)
theorem itemC.up {c : List Value} {x : Item} (h : itemC w (Lt w) c x) (hb : Below w.heap.size w w') : itemC w' (Lt w') c x := h.to (fun b hb' => Nat.lt_of_lt_of_le hb' hb.size) (Same.lt hb)
theorem wdC.up {c : List Value} {x : Wd} (h : wdC w (Lt w) c x) (hb : Below w.heap.size w w') : wdC w' (Lt w') c x := h.to (fun b hb' => Nat.lt_of_lt_of_le hb' hb.size) (Same.lt hb)
theorem sysC.up {c : List Value} {x : Sys} (h : sysC w (Lt w) c x) (hb : Below w.heap.size w w') : sysC w' (Lt w') c x := h.to (fun b hb' => Nat.lt_of_lt_of_le hb' hb.size) (Same.lt hb)

/-! one element, its cells written out, at the addresses that the walk computes -/
variable {A : Option Addr} {n cap i : Nat}
theorem Ints.at {l : List Int} (h : Ints w S (.slice A n cap) l) (hi : i < l.length) : ∃ b off, A = some ⟨b, off, none⟩ ∧ S b ∧ w.cell? ⟨b, off + i, none⟩ = some (.int .i64 l[i]) := by
  obtain ⟨b, off, c, hA, hb, hc, _, hj⟩ := Sl.at h hi
  subst hc
  have h0 := hj 0 _ rfl
  simp only [Nat.mul_one, Nat.add_zero] at h0
  exact ⟨b, off, hA, hb, h0⟩
theorem Fields.at {l : List Field} (h : Fields w S (.slice A n cap) l) (hi : i < l.length) : ∃ b off, A = some ⟨b, off, none⟩ ∧ S b ∧ w.cell? ⟨b, off + i * 3, none⟩ = some (strV l[i].name) ∧ w.cell? ⟨b, off + i * 3 + 1, none⟩ = some (.int .i64 l[i].bits) ∧ w.cell? ⟨b, off + i * 3 + 2, none⟩ = some (.int .i64 l[i].low) := by
  obtain ⟨b, off, c, hA, hb, hc, _, hj⟩ := Sl.at h hi
  subst hc
  exact ⟨b, off, hA, hb, hj 0 _ rfl, hj 1 _ rfl, hj 2 _ rfl⟩
theorem Ents.at {l : List Ent} (h : Ents w S (.slice A n cap) l) (hi : i < l.length) : ∃ b off, A = some ⟨b, off, none⟩ ∧ S b ∧ w.cell? ⟨b, off + i * 2, none⟩ = some (.int .i64 l[i].n) ∧ w.cell? ⟨b, off + i * 2 + 1, none⟩ = some (.int .i64 l[i].gen) := by
  obtain ⟨b, off, c, hA, hb, hc, _, hj⟩ := Sl.at h hi
  subst hc
  exact ⟨b, off, hA, hb, hj 0 _ rfl, hj 1 _ rfl⟩
theorem Evts.at {l : List Evt} (h : Evts w S (.slice A n cap) l) (hi : i < l.length) : ∃ b off, A = some ⟨b, off, none⟩ ∧ S b ∧ w.cell? ⟨b, off + i * 4, none⟩ = some (.int .i64 l[i].sys) ∧ w.cell? ⟨b, off + i * 4 + 1, none⟩ = some (.int .i64 l[i].ent.n) ∧ w.cell? ⟨b, off + i * 4 + 2, none⟩ = some (.int .i64 l[i].ent.gen) ∧ w.cell? ⟨b, off + i * 4 + 3, none⟩ = some (.int .i64 l[i].val) := by
  obtain ⟨b, off, c, hA, hb, hc, _, hj⟩ := Sl.at h hi
  subst hc
  exact ⟨b, off, hA, hb, hj 0 _ rfl, hj 1 _ rfl, hj 2 _ rfl, hj 3 _ rfl⟩
theorem Kinds.at {l : List Kind} (h : Kinds w S (.slice A n cap) l) (hi : i < l.length) : ∃ b off B m, A = some ⟨b, off, none⟩ ∧ S b ∧ w.cell? ⟨b, off + i * 2, none⟩ = some (strV l[i].name) ∧ w.cell? ⟨b, off + i * 2 + 1, none⟩ = some (.slice B l[i].fields.length m) ∧ Fields w S (.slice B l[i].fields.length m) l[i].fields := by
  obtain ⟨b, off, c, hA, hb, ⟨vf, rfl, hf⟩, _, hj⟩ := Sl.at h hi
  obtain ⟨B, m, rfl, _⟩ := hf.form
  exact ⟨b, off, B, m, hA, hb, hj 0 _ rfl, hj 1 _ rfl, hf⟩
theorem Comps.at {l : List Comp} (h : Comps w S (.slice A n cap) l) (hi : i < l.length) : ∃ b off B m, A = some ⟨b, off, none⟩ ∧ S b ∧ w.cell? ⟨b, off + i * 2, none⟩ = some (.int .i64 l[i].kind) ∧ w.cell? ⟨b, off + i * 2 + 1, none⟩ = some (.slice B l[i].vals.length m) ∧ Ints w S (.slice B l[i].vals.length m) l[i].vals := by
  obtain ⟨b, off, c, hA, hb, ⟨vf, rfl, hf⟩, _, hj⟩ := Sl.at h hi
  obtain ⟨B, m, rfl, _⟩ := hf.form
  exact ⟨b, off, B, m, hA, hb, hj 0 _ rfl, hj 1 _ rfl, hf⟩
theorem Items.at {l : List Item} (h : Items w S (.slice A n cap) l) (hi : i < l.length) : ∃ b off B m, A = some ⟨b, off, none⟩ ∧ S b ∧ w.cell? ⟨b, off + i * 3, none⟩ = some (.int .i64 l[i].ent.n) ∧ w.cell? ⟨b, off + i * 3 + 1, none⟩ = some (.int .i64 l[i].ent.gen) ∧ w.cell? ⟨b, off + i * 3 + 2, none⟩ = some (.slice B l[i].comps.length m) ∧ Comps w S (.slice B l[i].comps.length m) l[i].comps := by
  obtain ⟨b, off, c, hA, hb, ⟨vf, rfl, hf⟩, _, hj⟩ := Sl.at h hi
  obtain ⟨B, m, rfl, _⟩ := hf.form
  exact ⟨b, off, B, m, hA, hb, hj 0 _ rfl, hj 1 _ rfl, hj 2 _ rfl, hf⟩
end

/-! ### Lists that the call builds by append -/
/-- The call's own row v (elements of type e) holds the list l; what its elements lead to lies in blocks of S other than the row's own. -/
def OwnL {α : Type} (w : World) (base : Nat) (e : TypeId) (S : Reg) (sz : Nat) (C : World → Reg → List Value → α → Prop) (v : Value) (l : List α) : Prop :=
  ∃ xs, w.ownsRow base e sz v l.length xs ∧ Cells (C w (fun b => S b ∧ b < w.heap.size ∧ v.ownBlock ≠ some b)) sz xs l

section
variable {α : Type} {w w' : World} {base : Nat} {e : TypeId} {S T : Reg} {sz : Nat} {C : World → Reg → List Value → α → Prop} {v : Value} {l : List α}
theorem OwnL.nil (w : World) (base : Nat) (e : TypeId) (S : Reg) (sz : Nat) (C : World → Reg → List Value → α → Prop) : OwnL w base e S sz C (.slice none 0 0) ([] : List α) :=
  ⟨[], World.ownsRow_nil w base e sz, .nil⟩
theorem OwnL.sl (h : OwnL w base e S sz C v l) (hC : ∀ S' T' c x, C w S' c x → (∀ b, S' b → T' b) → C w T' c x) (hS : ∀ b, S b → T b) (hb : ∀ b, base ≤ b → b < w.heap.size → T b) : Sl w T sz C v l := by
  obtain ⟨xs, h1, h2⟩ := h
  exact ⟨xs, (Row.of_own h1).to (fun b hh => hb b hh.1 hh.2.1) (Same.refl _ _), h2.mono fun c x hc => hC _ _ c x hc (fun b hh => hS b hh.1)⟩
theorem OwnL.form (h : OwnL w base e S sz C v l) : ∃ A cap, v = .slice A l.length cap ∧ l.length ≤ cap := by
  obtain ⟨xs, h1, _⟩ := h
  exact (Row.of_own h1).form
/-- Other blocks turn, new ones come. -/
theorem OwnL.keep {row : Option Nat} (h : OwnL w base e S sz C v l) (hg : w.grownBy w' row) (hne : v.ownBlock = none ∨ v.ownBlock ≠ row) (hC : ∀ S' T' c x, C w S' c x → (∀ b, S' b → T' b) → Same S' w w' → C w' T' c x) (hS : ∀ b, S b → b < w.heap.size → T b) (hr : ∀ b, S b → some b ≠ row) : OwnL w' base e T sz C v l := by
  obtain ⟨xs, h1, h2⟩ := h
  refine ⟨xs, h1.kept hg hne, h2.mono fun c x hc => hC _ _ c x hc ?_ ?_⟩
  · rintro b ⟨hb, hl, hn⟩
    exact ⟨hS b hb hl, Nat.lt_of_lt_of_le hl hg.size, hn⟩
  · rintro b ⟨hb, hl, _⟩
    exact hg.block b hl (hr b hb)
/-- What an append leaves. -/
theorem OwnL.app {v' : Value} {news : List Value} {ls : List α} {xs : List Value} (hcell : Cells (C w (fun b => S b ∧ b < w.heap.size ∧ v.ownBlock ≠ some b)) sz xs l) (hown : w'.ownsRow base e sz v' (l ++ ls).length (xs ++ news)) (hg : w.grownBy w' v.ownBlock)
    (hat : v'.ownBlock = v.ownBlock ∨ v'.ownBlock = some w.heap.size) (hn : Cells (C w (fun b => S b ∧ b < w.heap.size ∧ v.ownBlock ≠ some b)) sz news ls)
    (hC : ∀ S' T' c x, C w S' c x → (∀ b, S' b → T' b) → Same S' w w' → C w' T' c x) : OwnL w' base e S sz C v' (l ++ ls) := by
  refine ⟨xs ++ news, hown, (hcell.append hn).mono fun c x hc => hC _ _ c x hc ?_ ?_⟩
  · rintro b ⟨hb, hl, hne⟩
    refine ⟨hb, Nat.lt_of_lt_of_le hl hg.size, ?_⟩
    rcases hat with e | e <;> rw [e]
    · exact hne
    · intro h'
      injection h' with h'
      omega
  · rintro b ⟨hb, hl, hne⟩
    exact hg.block b hl (fun e => hne e.symm)
end

/-! ### A row of numbers that the call has made -/
def Arr (w : World) (b : Nat) (e : TypeId) (l : List Int) : Prop := w.rowIs b e l.length (fun j => .int .i64 (l.getD j 0))
section
variable {w w' : World} {b : Nat} {e : TypeId} {l : List Int}
theorem Arr.made (w : World) (n : Nat) (e : TypeId) : Arr (w.alloc (.cells (madeCells #[.int .i64 0] n) e)) w.heap.size e (List.replicate n 0) := by
  unfold Arr
  rw [List.length_replicate]
  refine (World.rowIs_made w (.int .i64 0) n e).congr fun i hi => ?_
  simp [List.getD_eq_getElem?_getD, hi]
theorem Arr.set (h : Arr w b e l) {i : Nat} (hi : i < l.length) (x : Int) : Arr (w.setCell ⟨b, i, none⟩ (.int .i64 x)) b e (l.set i x) := by
  unfold Arr at *
  rw [List.length_set]
  refine (h.set i _).congr fun j hj => ?_
  by_cases e : j = i
  · subst e
    simp [hi]
  · simp [e, List.getElem?_set_ne (Ne.symm e)]
theorem Arr.setOther (h : Arr w b e l) {a : Addr} (ha : b ≠ a.block) (v : Value) : Arr (w.setCell a v) b e l := World.rowIs.setOther h ha v
theorem Arr.of_block (h : Arr w b e l) (k : w'.heap[b]? = w.heap[b]?) : Arr w' b e l := World.rowIs.of_block h k
theorem Arr.alloc (h : Arr w b e l) (o : Obj) : Arr (w.alloc o) b e l := World.rowIs.alloc h o
theorem Arr.drew (h : Arr w b e l) : Arr w.drew b e l := h
theorem Arr.lt (h : Arr w b e l) : b < w.heap.size := World.rowIs.lt h
theorem Arr.below (h : Arr w b e l) {B : Nat} (k : Below B w w') (hb : b < B) : Arr w' b e l := h.of_block (k.block b hb)
theorem Arr.cell (h : Arr w b e l) {i : Nat} (hi : i < l.length) : w.cell? ⟨b, i, none⟩ = some (.int .i64 l[i]) := by
  have := World.rowIs.cell h hi
  rwa [List.getD_eq_getElem?_getD, List.getElem?_eq_getElem hi] at this
theorem Arr.frozen (h : Arr w b e l) (i : Nat) : w.frozen? ⟨b, i, none⟩ = false := World.rowIs.frozen h i
theorem cells_ints (l : List Int) {w : World} {S : Reg} : Cells (intC w S) 1 (l.map (Value.int .i64)) l := by
  induction l with
  | nil => exact .nil
  | cons x l ih => exact ⟨[.int .i64 x], l.map (Value.int .i64), rfl, rfl, rfl, ih⟩
theorem Arr.ints (h : Arr w b e l) {S : Reg} (hS : S b) {n cap : Nat} (hn : n = l.length) (hc : n ≤ cap) : Ints w S (.slice (some ⟨b, 0, none⟩) n cap) l := by
  subst hn
  refine ⟨l.map (Value.int .i64), ⟨by simp, _, cap, rfl, hc, fun _ => ⟨b, 0, rfl, hS, fun j u hu => ?_⟩⟩, cells_ints l⟩
  have hj : j < l.length := by
    have := (List.getElem?_eq_some_iff.1 hu).1
    simpa using this
  rw [Nat.zero_add, h.cell hj]
  rw [List.getElem?_map, List.getElem?_eq_getElem hj] at hu
  simpa using hu
end

/-! ### A block that is known whole -/
def Blk (w : World) (g : Nat) (t : TypeId) (cs : Array Value) : Prop := w.heap[g]? = some (.cells cs t (0, 0))
section
variable {w w' : World} {g : Nat} {t : TypeId} {cs : Array Value}
theorem Blk.lt (h : Blk w g t cs) : g < w.heap.size := lt_of_block h
theorem Blk.cell (h : Blk w g t cs) (i : Nat) : w.cell? ⟨g, i, none⟩ = cs[i]? := cell_of_row w g i cs t (0, 0) h
theorem Blk.frozen (h : Blk w g t cs) (i : Nat) : w.frozen? ⟨g, i, none⟩ = false := by
  unfold Blk at h
  simp [World.frozen?, h]
theorem Blk.new (w : World) (t : TypeId) (cs : Array Value) : Blk (w.alloc (.cells cs t)) w.heap.size t cs := heap_alloc_new w _
theorem Blk.drew (h : Blk w g t cs) : Blk w.drew g t cs := h
theorem Blk.alloc (h : Blk w g t cs) (o : Obj) : Blk (w.alloc o) g t cs := (Below.heap_alloc w o g h.lt).trans h
theorem Blk.set_ (h : Blk w g t cs) (i : Nat) (u : Value) : Blk (w.setCell ⟨g, i, none⟩ u) g t (cs.setIfInBounds i u) := by
  unfold Blk at h ⊢
  simp [World.setCell, Array.getElem?_modify, h]
theorem Blk.far (h : Blk w g t cs) {p : Addr} (hp : g ≠ p.block) (u : Value) : Blk (w.setCell p u) g t cs := (Below.heap_setCell w p u g hp).trans h
theorem Blk.same (h : Blk w g t cs) {S : Reg} (hs : Same S w w') (hg : S g) : Blk w' g t cs := (hs g hg).trans h
theorem Blk.below {B : Nat} (h : Blk w g t cs) (hb : Below B w w') (hg : g < B) : Blk w' g t cs := (hb.block g hg).trans h
theorem Blk.grown {row : Option Nat} (h : Blk w g t cs) (hb : w.grownBy w' row) (hg : some g ≠ row) : Blk w' g t cs := (hb.block g h.lt hg).trans h
end
end Go.Proofs.Ytcfleoaldoebhaa

namespace Go.Proofs.Ytcfleoaldoebhaa
set_option linter.unusedSimpArgs false
set_option linter.unusedVariables false
open Go.ChangeShapes Go.WideShapes Go.ChangeAt Go.RowKit Go.Deep

theorem i64_of_wf {x : Int} (h : (Lit.int .i64 x).wf = true) : I64 x := by
  have := h
  simp [Lit.wf, IntKind.min, IntKind.max, IntKind.signed, IntKind.bits] at this
  unfold I64
  omega

theorem flat_at {α : Type} {sz : Nat} {cs : α → List Value} {f : Nat → Option Value} (hcs : ∀ x, (cs x).length = sz) : ∀ (l : List α) (off : Nat), (∀ i (hi : i < l.length) j u, (cs l[i])[j]? = some u → f (off + (i * sz + j)) = some u) →
    ∀ j u, (l.flatMap cs)[j]? = some u → f (off + j) = some u := by
  intro l
  induction l with
  | nil => intro off _ j u h; simp at h
  | cons x l ih =>
    intro off h j u hj
    rw [List.flatMap_cons] at hj
    rcases Nat.lt_or_ge j sz with hlt | hge
    · rw [List.getElem?_append_left (by rw [hcs]; exact hlt)] at hj
      have := h 0 (by simp) j u hj
      simpa using this
    · rw [List.getElem?_append_right (by rw [hcs]; exact hge), hcs] at hj
      have := ih (off + sz) (fun i hi j u hu => by
        have := h (i + 1) (by simp; omega) j u hu
        rwa [Nat.add_mul, Nat.one_mul, show off + (i * sz + sz + j) = off + sz + (i * sz + j) by omega] at this) (j - sz) u hj
      rwa [show off + sz + (j - sz) = off + j by omega] at this
theorem cells_flat {α : Type} {sz : Nat} {cs : α → List Value} {C : List Value → α → Prop} (hcs : ∀ x, (cs x).length = sz) (hC : ∀ x, C (cs x) x) (l : List α) : Cells C sz (l.flatMap cs) l := by
  induction l with
  | nil => rfl
  | cons x l ih => exact ⟨cs x, l.flatMap cs, by rw [List.flatMap_cons], hcs x, hC x, ih⟩
theorem sl_of_cells {α : Type} {w : World} {sz : Nat} {C : World → Reg → List Value → α → Prop} {a : Addr} {n cap : Nat} {l : List α} {cs : α → List Value} (hn : n ≤ cap) (hl : l.length = n) (hsz : 0 < sz) (hcs : ∀ x, (cs x).length = sz) (hC : ∀ x, C w (Lt w) (cs x) x)
    (hcell : ∀ i (hi : i < l.length) j u, (cs l[i])[j]? = some u → w.cell? (a.add (i * sz + j)) = some u) : Sl w (Lt w) sz C (.slice (some a) n cap) l := by
  subst hl
  refine ⟨l.flatMap cs, ⟨?_, some a, cap, rfl, hn, fun h0 => ?_⟩, cells_flat hcs hC l⟩
  · have := (cells_flat (C := fun _ _ => True) hcs (fun _ => trivial) l).length
    exact this
  · obtain ⟨b, off, spot⟩ := a
    have h1 : ∃ u, (cs l[0])[0]? = some u := ⟨_, List.getElem?_eq_getElem (by rw [hcs]; exact hsz)⟩
    obtain ⟨u, hu⟩ := h1
    have h2 := hcell 0 h0 0 u hu
    have hspot : spot = none := by simpa [Addr.add] using World.cell?_spot h2
    subst hspot
    refine ⟨b, off, rfl, ?_, ?_⟩
    · rw [Go.WideShapes.add_plain] at h2
      unfold World.cell? at h2
      simp only at h2
      show b < w.heap.size
      rcases Nat.lt_or_ge b w.heap.size with h | h
      · exact h
      · rw [Array.getElem?_eq_none h] at h2
        cases h2
    · refine flat_at (f := fun k => w.cell? ⟨b, k, none⟩) hcs l off fun i hi j u hu => ?_
      have := hcell i hi j u hu
      rwa [Go.WideShapes.add_plain] at this

section
variable {H : Type} {enc : TypeId × Value → H} {w : World} {a : Option Addr} {len cap : Nat} {d : DataW H} {p : List MemPlace}
theorem ints_arg (h : DataW.Trod enc Try.prog w 0 (fun _ => true) true 35 (.slice a len cap) d p) :
    ∃ z : List Int, Ints w (Lt w) (.slice a len cap) z ∧ (z = [] ∨ ∃ elems spare, d = .slice elems spare ∧ z.length ≤ elems.length + spare.length) := by
  obtain ⟨fuel, hf⟩ := h
  rcases open_slice Try.underlying35 hf with ⟨hcs, _⟩ | ⟨x, l, c, m, n, D, Pl, hcs, hb, hl, hm, hmm, hx, hi⟩
  · simp [Value.cells] at hcs
    obtain ⟨rfl, rfl, rfl⟩ := hcs
    exact ⟨[], Sl.nil _ _ _ _, .inl rfl⟩
  · simp [Value.cells] at hcs
    obtain ⟨rfl, rfl, rfl⟩ := hcs
    have hlm : len ≤ m := by rw [hmm]; split <;> omega
    have hex : ∀ i, ∃ e : Int, i < len → ∀ j u, ([Value.int .i64 e])[j]? = some u → w.cell? (x.add (i * 1 + j)) = some u := by
      intro i
      by_cases hil : i < len
      · obtain ⟨cs', hc, ht⟩ := hi i (by omega)
        rw [show Try.prog.cellsOf 3 = 1 from by kernel_rfl] at hc
        obtain ⟨_, hcl, hat⟩ := World.cells?_some hc
        obtain ⟨k, rfl, _⟩ := DataW.trod_int Try.underlying3 ht
        refine ⟨k, fun _ j u hu => ?_⟩
        have hj : j = 0 := by
          have := (List.getElem?_eq_some_iff.1 hu).1
          simp at this
          omega
        subst hj
        have := hat 0 (by omega)
        rw [Go.Deep.add_add] at this
        rw [this, hu]
      · exact ⟨0, fun h => absurd h hil⟩
    obtain ⟨f, hf'⟩ := Classical.axiomOfChoice hex
    refine ⟨(List.range len).map f, sl_of_cells (cs := fun e => [Value.int .i64 e]) hl (by simp) (by omega) (fun _ => rfl) (fun _ => rfl) (fun i hi' j u hu => ?_), .inr ⟨_, _, (Prod.mk.inj hx).1, by simp⟩⟩
    simp only [List.length_map, List.length_range] at hi'
    exact hf' i hi' j u (by simpa using hu)
end
end Go.Proofs.Ytcfleoaldoebhaa

namespace Go.Proofs.Ytcfleoaldoebhaa
set_option linter.unusedSimpArgs false
set_option linter.unusedVariables false
open Go.ChangeShapes Go.WideShapes Go.ChangeAt Go.RowKit Go.Deep
section
variable {H : Type} {enc : TypeId × Value → H} {w : World} {a : Option Addr} {len cap : Nat} {d : DataW H} {p : List MemPlace}
theorem len4 {l : List Value} (h : l.length = 4) : ∃ a b c d, l = [a, b, c, d] := by
  cases l with
  | nil => cases h
  | cons a l =>
    cases l with
    | nil => cases h
    | cons b l =>
      cases l with
      | nil => cases h
      | cons c l =>
        cases l with
        | nil => cases h
        | cons d l =>
          cases l with
          | nil => exact ⟨a, b, c, d, rfl⟩
          | cons e l => simp at h
theorem evts_arg (h : DataW.Trod enc Try.prog w 0 (fun _ => true) true 22 (.slice a len cap) d p) :
    ∃ z : List Evt, Evts w (Lt w) (.slice a len cap) z ∧ (z = [] ∨ ∃ elems spare, d = .slice elems spare ∧ z.length ≤ elems.length + spare.length) := by
  obtain ⟨fuel, hf⟩ := h
  rcases open_slice Try.underlying22 hf with ⟨hcs, _⟩ | ⟨x, l, c, m, n, D, Pl, hcs, hb, hl, hm, hmm, hx, hi⟩
  · simp [Value.cells] at hcs
    obtain ⟨rfl, rfl, rfl⟩ := hcs
    exact ⟨[], Sl.nil _ _ _ _, .inl rfl⟩
  · simp [Value.cells] at hcs
    obtain ⟨rfl, rfl, rfl⟩ := hcs
    have hlm : len ≤ m := by rw [hmm]; split <;> omega
    have hex : ∀ i, ∃ e : Evt, i < len → ∀ j u, ([Value.int .i64 e.sys, .int .i64 e.ent.n, .int .i64 e.ent.gen, .int .i64 e.val])[j]? = some u → w.cell? (x.add (i * 4 + j)) = some u := by
      intro i
      by_cases hil : i < len
      · obtain ⟨cs', hc, ht⟩ := hi i (by omega)
        rw [show Try.prog.cellsOf 30 = 4 from by kernel_rfl] at hc
        obtain ⟨_, hcl, hat⟩ := World.cells?_some hc
        obtain ⟨ys, n', _, _, _, hl3, hfs⟩ := DataW.trod_struct Try.underlying30 ht
        have c3 : Try.prog.cellsOf 3 = 1 := by kernel_rfl
        have c28 : Try.prog.cellsOf 28 = 2 := by kernel_rfl
        obtain ⟨u0, u1, u2, u3, rfl⟩ := len4 hcl
        have f0 : DataW.trod enc Try.prog w 0 (fun _ => true) true n' 3 (List.take (Try.prog.cellsOf 3) [u0, u1, u2, u3]) = ys[0]? := hfs 0 _ rfl
        have f1 : DataW.trod enc Try.prog w 0 (fun _ => true) true n' 28 (List.take (Try.prog.cellsOf 28) [u1, u2, u3]) = ys[1]? := hfs 1 _ rfl
        have f2 : DataW.trod enc Try.prog w 0 (fun _ => true) true n' 3 (List.take (Try.prog.cellsOf 3) [u3]) = ys[2]? := hfs 2 _ rfl
        rw [c3] at f0 f2
        rw [c28] at f1
        have hl3 : ys.length = 3 := hl3
        rw [List.getElem?_eq_getElem (by omega)] at f0 f1 f2
        obtain ⟨k0, e0, _⟩ := DataW.trod_int Try.underlying3 f0
        obtain ⟨k3, e3, _⟩ := DataW.trod_int Try.underlying3 f2
        obtain ⟨zs, n2, _, _, _, hl2, hgs⟩ := DataW.trod_struct Try.underlying28 f1
        have g0 : DataW.trod enc Try.prog w 0 (fun _ => true) true n2 3 (List.take (Try.prog.cellsOf 3) [u1, u2]) = zs[0]? := hgs 0 _ rfl
        have g1 : DataW.trod enc Try.prog w 0 (fun _ => true) true n2 3 (List.take (Try.prog.cellsOf 3) [u2]) = zs[1]? := hgs 1 _ rfl
        rw [c3] at g0 g1
        have hl2' : zs.length = 2 := hl2
        rw [List.getElem?_eq_getElem (by omega)] at g0 g1
        obtain ⟨k1, e1, _⟩ := DataW.trod_int Try.underlying3 g0
        obtain ⟨k2, e2, _⟩ := DataW.trod_int Try.underlying3 g1
        simp only [List.take_succ_cons, List.take_zero, List.cons.injEq, and_true] at e0 e1 e2 e3
        subst e0 e1 e2 e3
        refine ⟨⟨k0, ⟨k1, k2⟩, k3⟩, fun _ j u hu => ?_⟩
        have hj : j < 4 := (List.getElem?_eq_some_iff.1 hu).1
        have := hat j hj
        rw [Go.Deep.add_add] at this
        rw [this]
        exact hu
      · exact ⟨⟨0, ⟨0, 0⟩, 0⟩, fun h => absurd h hil⟩
    obtain ⟨f, hf'⟩ := Classical.axiomOfChoice hex
    refine ⟨(List.range len).map f, sl_of_cells (cs := fun e => [Value.int .i64 e.sys, .int .i64 e.ent.n, .int .i64 e.ent.gen, .int .i64 e.val]) hl (by simp) (by omega) (fun _ => rfl) (fun _ => rfl) (fun i hi' j u hu => ?_), .inr ⟨_, _, (Prod.mk.inj hx).1, by simp⟩⟩
    simp only [List.length_map, List.length_range] at hi'
    exact hf' i hi' j u (by simpa using hu)
end
end Go.Proofs.Ytcfleoaldoebhaa

namespace Go.Proofs.Ytcfleoaldoebhaa
set_option linter.unusedVariables false

instance tAg1 : TAg Try.prog 1 false := ⟨by kernel_rfl⟩
instance tSize1 : TSize Try.prog 1 1 := ⟨by kernel_rfl⟩
instance tZe1 : TZe Try.prog 1 [.nilFunc] := ⟨by kernel_rfl⟩
instance tBy1 : TBy Try.prog 1 8 := ⟨by kernel_rfl⟩
instance tAg2 : TAg Try.prog 2 false := ⟨by kernel_rfl⟩
instance tSize2 : TSize Try.prog 2 1 := ⟨by kernel_rfl⟩
instance tZe2 : TZe Try.prog 2 [.int .i64 0] := ⟨by kernel_rfl⟩
instance tBy2 : TBy Try.prog 2 8 := ⟨by kernel_rfl⟩
instance tAg3 : TAg Try.prog 3 false := ⟨by kernel_rfl⟩
instance tSize3 : TSize Try.prog 3 1 := ⟨by kernel_rfl⟩
instance tZe3 : TZe Try.prog 3 [.int .i64 0] := ⟨by kernel_rfl⟩
instance tBy3 : TBy Try.prog 3 8 := ⟨by kernel_rfl⟩
instance tAg4 : TAg Try.prog 4 false := ⟨by kernel_rfl⟩
instance tSize4 : TSize Try.prog 4 1 := ⟨by kernel_rfl⟩
instance tZe4 : TZe Try.prog 4 [.bool false] := ⟨by kernel_rfl⟩
instance tBy4 : TBy Try.prog 4 1 := ⟨by kernel_rfl⟩
instance tAg5 : TAg Try.prog 5 false := ⟨by kernel_rfl⟩
instance tSize5 : TSize Try.prog 5 1 := ⟨by kernel_rfl⟩
instance tZe5 : TZe Try.prog 5 [.int .u8 0] := ⟨by kernel_rfl⟩
instance tBy5 : TBy Try.prog 5 1 := ⟨by kernel_rfl⟩
instance tAg9 : TAg Try.prog 9 false := ⟨by kernel_rfl⟩
instance tSize9 : TSize Try.prog 9 1 := ⟨by kernel_rfl⟩
instance tZe9 : TZe Try.prog 9 [.string ByteArray.empty] := ⟨by kernel_rfl⟩
instance tBy9 : TBy Try.prog 9 16 := ⟨by kernel_rfl⟩
instance tSg9 : TSg Try.prog 9  := ⟨by kernel_rfl⟩
instance tAg12 : TAg Try.prog 12 false := ⟨by kernel_rfl⟩
instance tSize12 : TSize Try.prog 12 1 := ⟨by kernel_rfl⟩
instance tZe12 : TZe Try.prog 12 [.int .u64 0] := ⟨by kernel_rfl⟩
instance tBy12 : TBy Try.prog 12 8 := ⟨by kernel_rfl⟩
instance tAg13 : TAg Try.prog 13 true := ⟨by kernel_rfl⟩
instance tSize13 : TSize Try.prog 13 2 := ⟨by kernel_rfl⟩
instance tZe13 : TZe Try.prog 13 [.string ByteArray.empty, .int .u64 0] := ⟨by kernel_rfl⟩
instance tBy13 : TBy Try.prog 13 24 := ⟨by kernel_rfl⟩
instance tFl13_0 : TFl Try.prog 13 0 0 9 := ⟨by kernel_rfl⟩
instance tFl13_1 : TFl Try.prog 13 1 1 12 := ⟨by kernel_rfl⟩
instance tSt13 : TSt Try.prog 13 [.string ByteArray.empty, .int .u64 0] [(0, 1), (1, 1)] := ⟨by kernel_rfl⟩
instance tAg21 : TAg Try.prog 21 false := ⟨by kernel_rfl⟩
instance tSize21 : TSize Try.prog 21 1 := ⟨by kernel_rfl⟩
instance tZe21 : TZe Try.prog 21 [.int .i32 0] := ⟨by kernel_rfl⟩
instance tBy21 : TBy Try.prog 21 4 := ⟨by kernel_rfl⟩
instance tAg22 : TAg Try.prog 22 false := ⟨by kernel_rfl⟩
instance tSize22 : TSize Try.prog 22 1 := ⟨by kernel_rfl⟩
instance tZe22 : TZe Try.prog 22 [.slice none 0 0] := ⟨by kernel_rfl⟩
instance tBy22 : TBy Try.prog 22 24 := ⟨by kernel_rfl⟩
instance tEl22 : TEl Try.prog 22 30 := ⟨by kernel_rfl⟩
instance tRo22 : TRo Try.prog 22 30 4 32 := ⟨by kernel_rfl⟩
instance tAg23 : TAg Try.prog 23 false := ⟨by kernel_rfl⟩
instance tSize23 : TSize Try.prog 23 1 := ⟨by kernel_rfl⟩
instance tZe23 : TZe Try.prog 23 [.pointer none] := ⟨by kernel_rfl⟩
instance tBy23 : TBy Try.prog 23 8 := ⟨by kernel_rfl⟩
instance tAg24 : TAg Try.prog 24 false := ⟨by kernel_rfl⟩
instance tSize24 : TSize Try.prog 24 1 := ⟨by kernel_rfl⟩
instance tZe24 : TZe Try.prog 24 [.nilFunc] := ⟨by kernel_rfl⟩
instance tBy24 : TBy Try.prog 24 8 := ⟨by kernel_rfl⟩
instance tAg25 : TAg Try.prog 25 false := ⟨by kernel_rfl⟩
instance tSize25 : TSize Try.prog 25 1 := ⟨by kernel_rfl⟩
instance tZe25 : TZe Try.prog 25 [.int .i64 0] := ⟨by kernel_rfl⟩
instance tBy25 : TBy Try.prog 25 8 := ⟨by kernel_rfl⟩
instance tAg26 : TAg Try.prog 26 false := ⟨by kernel_rfl⟩
instance tSize26 : TSize Try.prog 26 1 := ⟨by kernel_rfl⟩
instance tZe26 : TZe Try.prog 26 [.nilFunc] := ⟨by kernel_rfl⟩
instance tBy26 : TBy Try.prog 26 8 := ⟨by kernel_rfl⟩
instance tAg27 : TAg Try.prog 27 true := ⟨by kernel_rfl⟩
instance tSize27 : TSize Try.prog 27 2 := ⟨by kernel_rfl⟩
instance tZe27 : TZe Try.prog 27 [.int .i64 0, .int .i64 0] := ⟨by kernel_rfl⟩
instance tBy27 : TBy Try.prog 27 16 := ⟨by kernel_rfl⟩
instance tFl27_0 : TFl Try.prog 27 0 0 3 := ⟨by kernel_rfl⟩
instance tFl27_1 : TFl Try.prog 27 1 1 3 := ⟨by kernel_rfl⟩
instance tSt27 : TSt Try.prog 27 [.int .i64 0, .int .i64 0] [(0, 1), (1, 1)] := ⟨by kernel_rfl⟩
instance tAg28 : TAg Try.prog 28 true := ⟨by kernel_rfl⟩
instance tSize28 : TSize Try.prog 28 2 := ⟨by kernel_rfl⟩
instance tZe28 : TZe Try.prog 28 [.int .i64 0, .int .i64 0] := ⟨by kernel_rfl⟩
instance tBy28 : TBy Try.prog 28 16 := ⟨by kernel_rfl⟩
instance tFl28_0 : TFl Try.prog 28 0 0 3 := ⟨by kernel_rfl⟩
instance tFl28_1 : TFl Try.prog 28 1 1 3 := ⟨by kernel_rfl⟩
instance tSt28 : TSt Try.prog 28 [.int .i64 0, .int .i64 0] [(0, 1), (1, 1)] := ⟨by kernel_rfl⟩
instance tAg29 : TAg Try.prog 29 true := ⟨by kernel_rfl⟩
instance tSize29 : TSize Try.prog 29 4 := ⟨by kernel_rfl⟩
instance tZe29 : TZe Try.prog 29 [.int .i64 0, .int .i64 0, .int .i64 0, .int .i64 0] := ⟨by kernel_rfl⟩
instance tBy29 : TBy Try.prog 29 32 := ⟨by kernel_rfl⟩
instance tFl29_0 : TFl Try.prog 29 0 0 3 := ⟨by kernel_rfl⟩
instance tFl29_1 : TFl Try.prog 29 1 1 28 := ⟨by kernel_rfl⟩
instance tFl29_2 : TFl Try.prog 29 2 3 3 := ⟨by kernel_rfl⟩
instance tSt29 : TSt Try.prog 29 [.int .i64 0, .int .i64 0, .int .i64 0, .int .i64 0] [(0, 1), (1, 2), (3, 1)] := ⟨by kernel_rfl⟩
instance tAg30 : TAg Try.prog 30 true := ⟨by kernel_rfl⟩
instance tSize30 : TSize Try.prog 30 4 := ⟨by kernel_rfl⟩
instance tZe30 : TZe Try.prog 30 [.int .i64 0, .int .i64 0, .int .i64 0, .int .i64 0] := ⟨by kernel_rfl⟩
instance tBy30 : TBy Try.prog 30 32 := ⟨by kernel_rfl⟩
instance tFl30_0 : TFl Try.prog 30 0 0 3 := ⟨by kernel_rfl⟩
instance tFl30_1 : TFl Try.prog 30 1 1 28 := ⟨by kernel_rfl⟩
instance tFl30_2 : TFl Try.prog 30 2 3 3 := ⟨by kernel_rfl⟩
instance tSt30 : TSt Try.prog 30 [.int .i64 0, .int .i64 0, .int .i64 0, .int .i64 0] [(0, 1), (1, 2), (3, 1)] := ⟨by kernel_rfl⟩
instance tAg31 : TAg Try.prog 31 false := ⟨by kernel_rfl⟩
instance tSize31 : TSize Try.prog 31 1 := ⟨by kernel_rfl⟩
instance tZe31 : TZe Try.prog 31 [.nilFunc] := ⟨by kernel_rfl⟩
instance tBy31 : TBy Try.prog 31 8 := ⟨by kernel_rfl⟩
instance tAg32 : TAg Try.prog 32 false := ⟨by kernel_rfl⟩
instance tSize32 : TSize Try.prog 32 1 := ⟨by kernel_rfl⟩
instance tZe32 : TZe Try.prog 32 [.nilFunc] := ⟨by kernel_rfl⟩
instance tBy32 : TBy Try.prog 32 8 := ⟨by kernel_rfl⟩
instance tAg33 : TAg Try.prog 33 false := ⟨by kernel_rfl⟩
instance tSize33 : TSize Try.prog 33 1 := ⟨by kernel_rfl⟩
instance tZe33 : TZe Try.prog 33 [.nilFunc] := ⟨by kernel_rfl⟩
instance tBy33 : TBy Try.prog 33 8 := ⟨by kernel_rfl⟩
instance tAg34 : TAg Try.prog 34 false := ⟨by kernel_rfl⟩
instance tSize34 : TSize Try.prog 34 1 := ⟨by kernel_rfl⟩
instance tZe34 : TZe Try.prog 34 [.nilFunc] := ⟨by kernel_rfl⟩
instance tBy34 : TBy Try.prog 34 8 := ⟨by kernel_rfl⟩
instance tAg35 : TAg Try.prog 35 false := ⟨by kernel_rfl⟩
instance tSize35 : TSize Try.prog 35 1 := ⟨by kernel_rfl⟩
instance tZe35 : TZe Try.prog 35 [.slice none 0 0] := ⟨by kernel_rfl⟩
instance tBy35 : TBy Try.prog 35 24 := ⟨by kernel_rfl⟩
instance tEl35 : TEl Try.prog 35 3 := ⟨by kernel_rfl⟩
instance tRo35 : TRo Try.prog 35 3 1 8 := ⟨by kernel_rfl⟩
instance tAg36 : TAg Try.prog 36 false := ⟨by kernel_rfl⟩
instance tSize36 : TSize Try.prog 36 1 := ⟨by kernel_rfl⟩
instance tZe36 : TZe Try.prog 36 [.slice none 0 0] := ⟨by kernel_rfl⟩
instance tBy36 : TBy Try.prog 36 24 := ⟨by kernel_rfl⟩
instance tEl36 : TEl Try.prog 36 51 := ⟨by kernel_rfl⟩
instance tRo36 : TRo Try.prog 36 51 2 40 := ⟨by kernel_rfl⟩
instance tAg37 : TAg Try.prog 37 false := ⟨by kernel_rfl⟩
instance tSize37 : TSize Try.prog 37 1 := ⟨by kernel_rfl⟩
instance tZe37 : TZe Try.prog 37 [.slice none 0 0] := ⟨by kernel_rfl⟩
instance tBy37 : TBy Try.prog 37 24 := ⟨by kernel_rfl⟩
instance tEl37 : TEl Try.prog 37 98 := ⟨by kernel_rfl⟩
instance tRo37 : TRo Try.prog 37 98 3 40 := ⟨by kernel_rfl⟩
instance tAg38 : TAg Try.prog 38 true := ⟨by kernel_rfl⟩
instance tSize38 : TSize Try.prog 38 3 := ⟨by kernel_rfl⟩
instance tZe38 : TZe Try.prog 38 [.slice none 0 0, .slice none 0 0, .slice none 0 0] := ⟨by kernel_rfl⟩
instance tBy38 : TBy Try.prog 38 72 := ⟨by kernel_rfl⟩
instance tFl38_0 : TFl Try.prog 38 0 0 36 := ⟨by kernel_rfl⟩
instance tFl38_1 : TFl Try.prog 38 1 1 35 := ⟨by kernel_rfl⟩
instance tFl38_2 : TFl Try.prog 38 2 2 37 := ⟨by kernel_rfl⟩
instance tSt38 : TSt Try.prog 38 [.slice none 0 0, .slice none 0 0, .slice none 0 0] [(0, 1), (1, 1), (2, 1)] := ⟨by kernel_rfl⟩
instance tAg39 : TAg Try.prog 39 true := ⟨by kernel_rfl⟩
instance tSize39 : TSize Try.prog 39 3 := ⟨by kernel_rfl⟩
instance tZe39 : TZe Try.prog 39 [.slice none 0 0, .slice none 0 0, .slice none 0 0] := ⟨by kernel_rfl⟩
instance tBy39 : TBy Try.prog 39 72 := ⟨by kernel_rfl⟩
instance tFl39_0 : TFl Try.prog 39 0 0 36 := ⟨by kernel_rfl⟩
instance tFl39_1 : TFl Try.prog 39 1 1 35 := ⟨by kernel_rfl⟩
instance tFl39_2 : TFl Try.prog 39 2 2 37 := ⟨by kernel_rfl⟩
instance tSt39 : TSt Try.prog 39 [.slice none 0 0, .slice none 0 0, .slice none 0 0] [(0, 1), (1, 1), (2, 1)] := ⟨by kernel_rfl⟩
instance tAg40 : TAg Try.prog 40 false := ⟨by kernel_rfl⟩
instance tSize40 : TSize Try.prog 40 1 := ⟨by kernel_rfl⟩
instance tZe40 : TZe Try.prog 40 [.nilFunc] := ⟨by kernel_rfl⟩
instance tBy40 : TBy Try.prog 40 8 := ⟨by kernel_rfl⟩
instance tAg41 : TAg Try.prog 41 false := ⟨by kernel_rfl⟩
instance tSize41 : TSize Try.prog 41 1 := ⟨by kernel_rfl⟩
instance tZe41 : TZe Try.prog 41 [.nilFunc] := ⟨by kernel_rfl⟩
instance tBy41 : TBy Try.prog 41 8 := ⟨by kernel_rfl⟩
instance tAg42 : TAg Try.prog 42 false := ⟨by kernel_rfl⟩
instance tSize42 : TSize Try.prog 42 1 := ⟨by kernel_rfl⟩
instance tZe42 : TZe Try.prog 42 [.nilFunc] := ⟨by kernel_rfl⟩
instance tBy42 : TBy Try.prog 42 8 := ⟨by kernel_rfl⟩
instance tAg43 : TAg Try.prog 43 false := ⟨by kernel_rfl⟩
instance tSize43 : TSize Try.prog 43 1 := ⟨by kernel_rfl⟩
instance tZe43 : TZe Try.prog 43 [.nilFunc] := ⟨by kernel_rfl⟩
instance tBy43 : TBy Try.prog 43 8 := ⟨by kernel_rfl⟩
instance tAg44 : TAg Try.prog 44 false := ⟨by kernel_rfl⟩
instance tSize44 : TSize Try.prog 44 1 := ⟨by kernel_rfl⟩
instance tZe44 : TZe Try.prog 44 [.nilFunc] := ⟨by kernel_rfl⟩
instance tBy44 : TBy Try.prog 44 8 := ⟨by kernel_rfl⟩
instance tAg45 : TAg Try.prog 45 false := ⟨by kernel_rfl⟩
instance tSize45 : TSize Try.prog 45 1 := ⟨by kernel_rfl⟩
instance tZe45 : TZe Try.prog 45 [.nilFunc] := ⟨by kernel_rfl⟩
instance tBy45 : TBy Try.prog 45 8 := ⟨by kernel_rfl⟩
instance tAg46 : TAg Try.prog 46 false := ⟨by kernel_rfl⟩
instance tSize46 : TSize Try.prog 46 1 := ⟨by kernel_rfl⟩
instance tZe46 : TZe Try.prog 46 [.nilFunc] := ⟨by kernel_rfl⟩
instance tBy46 : TBy Try.prog 46 8 := ⟨by kernel_rfl⟩
instance tAg47 : TAg Try.prog 47 false := ⟨by kernel_rfl⟩
instance tSize47 : TSize Try.prog 47 1 := ⟨by kernel_rfl⟩
instance tZe47 : TZe Try.prog 47 [.nilFunc] := ⟨by kernel_rfl⟩
instance tBy47 : TBy Try.prog 47 8 := ⟨by kernel_rfl⟩
instance tAg48 : TAg Try.prog 48 false := ⟨by kernel_rfl⟩
instance tSize48 : TSize Try.prog 48 1 := ⟨by kernel_rfl⟩
instance tZe48 : TZe Try.prog 48 [.nilFunc] := ⟨by kernel_rfl⟩
instance tBy48 : TBy Try.prog 48 8 := ⟨by kernel_rfl⟩
instance tAg49 : TAg Try.prog 49 false := ⟨by kernel_rfl⟩
instance tSize49 : TSize Try.prog 49 1 := ⟨by kernel_rfl⟩
instance tZe49 : TZe Try.prog 49 [.slice none 0 0] := ⟨by kernel_rfl⟩
instance tBy49 : TBy Try.prog 49 24 := ⟨by kernel_rfl⟩
instance tEl49 : TEl Try.prog 49 62 := ⟨by kernel_rfl⟩
instance tRo49 : TRo Try.prog 49 62 3 32 := ⟨by kernel_rfl⟩
instance tAg50 : TAg Try.prog 50 true := ⟨by kernel_rfl⟩
instance tSize50 : TSize Try.prog 50 2 := ⟨by kernel_rfl⟩
instance tZe50 : TZe Try.prog 50 [.string ByteArray.empty, .slice none 0 0] := ⟨by kernel_rfl⟩
instance tBy50 : TBy Try.prog 50 40 := ⟨by kernel_rfl⟩
instance tFl50_0 : TFl Try.prog 50 0 0 9 := ⟨by kernel_rfl⟩
instance tFl50_1 : TFl Try.prog 50 1 1 49 := ⟨by kernel_rfl⟩
instance tSt50 : TSt Try.prog 50 [.string ByteArray.empty, .slice none 0 0] [(0, 1), (1, 1)] := ⟨by kernel_rfl⟩
instance tAg51 : TAg Try.prog 51 true := ⟨by kernel_rfl⟩
instance tSize51 : TSize Try.prog 51 2 := ⟨by kernel_rfl⟩
instance tZe51 : TZe Try.prog 51 [.string ByteArray.empty, .slice none 0 0] := ⟨by kernel_rfl⟩
instance tBy51 : TBy Try.prog 51 40 := ⟨by kernel_rfl⟩
instance tFl51_0 : TFl Try.prog 51 0 0 9 := ⟨by kernel_rfl⟩
instance tFl51_1 : TFl Try.prog 51 1 1 49 := ⟨by kernel_rfl⟩
instance tSt51 : TSt Try.prog 51 [.string ByteArray.empty, .slice none 0 0] [(0, 1), (1, 1)] := ⟨by kernel_rfl⟩
instance tAg52 : TAg Try.prog 52 false := ⟨by kernel_rfl⟩
instance tSize52 : TSize Try.prog 52 1 := ⟨by kernel_rfl⟩
instance tZe52 : TZe Try.prog 52 [.nilFunc] := ⟨by kernel_rfl⟩
instance tBy52 : TBy Try.prog 52 8 := ⟨by kernel_rfl⟩
instance tAg53 : TAg Try.prog 53 false := ⟨by kernel_rfl⟩
instance tSize53 : TSize Try.prog 53 1 := ⟨by kernel_rfl⟩
instance tZe53 : TZe Try.prog 53 [.nilFunc] := ⟨by kernel_rfl⟩
instance tBy53 : TBy Try.prog 53 8 := ⟨by kernel_rfl⟩
instance tAg55 : TAg Try.prog 55 false := ⟨by kernel_rfl⟩
instance tSize55 : TSize Try.prog 55 1 := ⟨by kernel_rfl⟩
instance tZe55 : TZe Try.prog 55 [.nilFunc] := ⟨by kernel_rfl⟩
instance tBy55 : TBy Try.prog 55 8 := ⟨by kernel_rfl⟩
instance tAg56 : TAg Try.prog 56 false := ⟨by kernel_rfl⟩
instance tSize56 : TSize Try.prog 56 1 := ⟨by kernel_rfl⟩
instance tZe56 : TZe Try.prog 56 [.nilFunc] := ⟨by kernel_rfl⟩
instance tBy56 : TBy Try.prog 56 8 := ⟨by kernel_rfl⟩
instance tAg57 : TAg Try.prog 57 true := ⟨by kernel_rfl⟩
instance tSize57 : TSize Try.prog 57 2 := ⟨by kernel_rfl⟩
instance tZe57 : TZe Try.prog 57 [.int .i64 0, .slice none 0 0] := ⟨by kernel_rfl⟩
instance tBy57 : TBy Try.prog 57 32 := ⟨by kernel_rfl⟩
instance tFl57_0 : TFl Try.prog 57 0 0 3 := ⟨by kernel_rfl⟩
instance tFl57_1 : TFl Try.prog 57 1 1 35 := ⟨by kernel_rfl⟩
instance tSt57 : TSt Try.prog 57 [.int .i64 0, .slice none 0 0] [(0, 1), (1, 1)] := ⟨by kernel_rfl⟩
instance tAg58 : TAg Try.prog 58 true := ⟨by kernel_rfl⟩
instance tSize58 : TSize Try.prog 58 2 := ⟨by kernel_rfl⟩
instance tZe58 : TZe Try.prog 58 [.int .i64 0, .slice none 0 0] := ⟨by kernel_rfl⟩
instance tBy58 : TBy Try.prog 58 32 := ⟨by kernel_rfl⟩
instance tFl58_0 : TFl Try.prog 58 0 0 3 := ⟨by kernel_rfl⟩
instance tFl58_1 : TFl Try.prog 58 1 1 35 := ⟨by kernel_rfl⟩
instance tSt58 : TSt Try.prog 58 [.int .i64 0, .slice none 0 0] [(0, 1), (1, 1)] := ⟨by kernel_rfl⟩
instance tAg59 : TAg Try.prog 59 false := ⟨by kernel_rfl⟩
instance tSize59 : TSize Try.prog 59 1 := ⟨by kernel_rfl⟩
instance tZe59 : TZe Try.prog 59 [.nilFunc] := ⟨by kernel_rfl⟩
instance tBy59 : TBy Try.prog 59 8 := ⟨by kernel_rfl⟩
instance tAg60 : TAg Try.prog 60 false := ⟨by kernel_rfl⟩
instance tSize60 : TSize Try.prog 60 1 := ⟨by kernel_rfl⟩
instance tZe60 : TZe Try.prog 60 [.nilFunc] := ⟨by kernel_rfl⟩
instance tBy60 : TBy Try.prog 60 8 := ⟨by kernel_rfl⟩
instance tAg61 : TAg Try.prog 61 true := ⟨by kernel_rfl⟩
instance tSize61 : TSize Try.prog 61 3 := ⟨by kernel_rfl⟩
instance tZe61 : TZe Try.prog 61 [.string ByteArray.empty, .int .i64 0, .int .i64 0] := ⟨by kernel_rfl⟩
instance tBy61 : TBy Try.prog 61 32 := ⟨by kernel_rfl⟩
instance tFl61_0 : TFl Try.prog 61 0 0 9 := ⟨by kernel_rfl⟩
instance tFl61_1 : TFl Try.prog 61 1 1 3 := ⟨by kernel_rfl⟩
instance tFl61_2 : TFl Try.prog 61 2 2 3 := ⟨by kernel_rfl⟩
instance tSt61 : TSt Try.prog 61 [.string ByteArray.empty, .int .i64 0, .int .i64 0] [(0, 1), (1, 1), (2, 1)] := ⟨by kernel_rfl⟩
instance tAg62 : TAg Try.prog 62 true := ⟨by kernel_rfl⟩
instance tSize62 : TSize Try.prog 62 3 := ⟨by kernel_rfl⟩
instance tZe62 : TZe Try.prog 62 [.string ByteArray.empty, .int .i64 0, .int .i64 0] := ⟨by kernel_rfl⟩
instance tBy62 : TBy Try.prog 62 32 := ⟨by kernel_rfl⟩
instance tFl62_0 : TFl Try.prog 62 0 0 9 := ⟨by kernel_rfl⟩
instance tFl62_1 : TFl Try.prog 62 1 1 3 := ⟨by kernel_rfl⟩
instance tFl62_2 : TFl Try.prog 62 2 2 3 := ⟨by kernel_rfl⟩
instance tSt62 : TSt Try.prog 62 [.string ByteArray.empty, .int .i64 0, .int .i64 0] [(0, 1), (1, 1), (2, 1)] := ⟨by kernel_rfl⟩
instance tAg63 : TAg Try.prog 63 false := ⟨by kernel_rfl⟩
instance tSize63 : TSize Try.prog 63 1 := ⟨by kernel_rfl⟩
instance tZe63 : TZe Try.prog 63 [.nilFunc] := ⟨by kernel_rfl⟩
instance tBy63 : TBy Try.prog 63 8 := ⟨by kernel_rfl⟩
instance tAg64 : TAg Try.prog 64 false := ⟨by kernel_rfl⟩
instance tSize64 : TSize Try.prog 64 1 := ⟨by kernel_rfl⟩
instance tZe64 : TZe Try.prog 64 [.nilFunc] := ⟨by kernel_rfl⟩
instance tBy64 : TBy Try.prog 64 8 := ⟨by kernel_rfl⟩
instance tAg65 : TAg Try.prog 65 false := ⟨by kernel_rfl⟩
instance tSize65 : TSize Try.prog 65 1 := ⟨by kernel_rfl⟩
instance tZe65 : TZe Try.prog 65 [.nilFunc] := ⟨by kernel_rfl⟩
instance tBy65 : TBy Try.prog 65 8 := ⟨by kernel_rfl⟩
instance tAg66 : TAg Try.prog 66 false := ⟨by kernel_rfl⟩
instance tSize66 : TSize Try.prog 66 1 := ⟨by kernel_rfl⟩
instance tZe66 : TZe Try.prog 66 [.slice none 0 0] := ⟨by kernel_rfl⟩
instance tBy66 : TBy Try.prog 66 24 := ⟨by kernel_rfl⟩
instance tEl66 : TEl Try.prog 66 72 := ⟨by kernel_rfl⟩
instance tRo66 : TRo Try.prog 66 72 7 160 := ⟨by kernel_rfl⟩
instance tAg67 : TAg Try.prog 67 false := ⟨by kernel_rfl⟩
instance tSize67 : TSize Try.prog 67 1 := ⟨by kernel_rfl⟩
instance tZe67 : TZe Try.prog 67 [.nilFunc] := ⟨by kernel_rfl⟩
instance tBy67 : TBy Try.prog 67 8 := ⟨by kernel_rfl⟩
instance tAg68 : TAg Try.prog 68 false := ⟨by kernel_rfl⟩
instance tSize68 : TSize Try.prog 68 1 := ⟨by kernel_rfl⟩
instance tZe68 : TZe Try.prog 68 [.nilFunc] := ⟨by kernel_rfl⟩
instance tBy68 : TBy Try.prog 68 8 := ⟨by kernel_rfl⟩
instance tAg69 : TAg Try.prog 69 false := ⟨by kernel_rfl⟩
instance tSize69 : TSize Try.prog 69 1 := ⟨by kernel_rfl⟩
instance tZe69 : TZe Try.prog 69 [.slice none 0 0] := ⟨by kernel_rfl⟩
instance tBy69 : TBy Try.prog 69 24 := ⟨by kernel_rfl⟩
instance tEl69 : TEl Try.prog 69 131 := ⟨by kernel_rfl⟩
instance tRo69 : TRo Try.prog 69 131 11 88 := ⟨by kernel_rfl⟩
instance tAg70 : TAg Try.prog 70 false := ⟨by kernel_rfl⟩
instance tSize70 : TSize Try.prog 70 1 := ⟨by kernel_rfl⟩
instance tZe70 : TZe Try.prog 70 [.slice none 0 0] := ⟨by kernel_rfl⟩
instance tBy70 : TBy Try.prog 70 24 := ⟨by kernel_rfl⟩
instance tEl70 : TEl Try.prog 70 58 := ⟨by kernel_rfl⟩
instance tRo70 : TRo Try.prog 70 58 2 32 := ⟨by kernel_rfl⟩
instance tAg71 : TAg Try.prog 71 true := ⟨by kernel_rfl⟩
instance tSize71 : TSize Try.prog 71 7 := ⟨by kernel_rfl⟩
instance tZe71 : TZe Try.prog 71 [.string ByteArray.empty, .slice none 0 0, .slice none 0 0, .slice none 0 0, .slice none 0 0, .slice none 0 0, .slice none 0 0] := ⟨by kernel_rfl⟩
instance tBy71 : TBy Try.prog 71 160 := ⟨by kernel_rfl⟩
instance tFl71_0 : TFl Try.prog 71 0 0 9 := ⟨by kernel_rfl⟩
instance tFl71_1 : TFl Try.prog 71 1 1 35 := ⟨by kernel_rfl⟩
instance tFl71_2 : TFl Try.prog 71 2 2 35 := ⟨by kernel_rfl⟩
instance tFl71_3 : TFl Try.prog 71 3 3 35 := ⟨by kernel_rfl⟩
instance tFl71_4 : TFl Try.prog 71 4 4 35 := ⟨by kernel_rfl⟩
instance tFl71_5 : TFl Try.prog 71 5 5 69 := ⟨by kernel_rfl⟩
instance tFl71_6 : TFl Try.prog 71 6 6 70 := ⟨by kernel_rfl⟩
instance tSt71 : TSt Try.prog 71 [.string ByteArray.empty, .slice none 0 0, .slice none 0 0, .slice none 0 0, .slice none 0 0, .slice none 0 0, .slice none 0 0] [(0, 1), (1, 1), (2, 1), (3, 1), (4, 1), (5, 1), (6, 1)] := ⟨by kernel_rfl⟩
instance tAg72 : TAg Try.prog 72 true := ⟨by kernel_rfl⟩
instance tSize72 : TSize Try.prog 72 7 := ⟨by kernel_rfl⟩
instance tZe72 : TZe Try.prog 72 [.string ByteArray.empty, .slice none 0 0, .slice none 0 0, .slice none 0 0, .slice none 0 0, .slice none 0 0, .slice none 0 0] := ⟨by kernel_rfl⟩
instance tBy72 : TBy Try.prog 72 160 := ⟨by kernel_rfl⟩
instance tFl72_0 : TFl Try.prog 72 0 0 9 := ⟨by kernel_rfl⟩
instance tFl72_1 : TFl Try.prog 72 1 1 35 := ⟨by kernel_rfl⟩
instance tFl72_2 : TFl Try.prog 72 2 2 35 := ⟨by kernel_rfl⟩
instance tFl72_3 : TFl Try.prog 72 3 3 35 := ⟨by kernel_rfl⟩
instance tFl72_4 : TFl Try.prog 72 4 4 35 := ⟨by kernel_rfl⟩
instance tFl72_5 : TFl Try.prog 72 5 5 69 := ⟨by kernel_rfl⟩
instance tFl72_6 : TFl Try.prog 72 6 6 70 := ⟨by kernel_rfl⟩
instance tSt72 : TSt Try.prog 72 [.string ByteArray.empty, .slice none 0 0, .slice none 0 0, .slice none 0 0, .slice none 0 0, .slice none 0 0, .slice none 0 0] [(0, 1), (1, 1), (2, 1), (3, 1), (4, 1), (5, 1), (6, 1)] := ⟨by kernel_rfl⟩
instance tAg73 : TAg Try.prog 73 false := ⟨by kernel_rfl⟩
instance tSize73 : TSize Try.prog 73 1 := ⟨by kernel_rfl⟩
instance tZe73 : TZe Try.prog 73 [.slice none 0 0] := ⟨by kernel_rfl⟩
instance tBy73 : TBy Try.prog 73 24 := ⟨by kernel_rfl⟩
instance tEl73 : TEl Try.prog 73 35 := ⟨by kernel_rfl⟩
instance tRo73 : TRo Try.prog 73 35 1 24 := ⟨by kernel_rfl⟩
instance tAg75 : TAg Try.prog 75 false := ⟨by kernel_rfl⟩
instance tSize75 : TSize Try.prog 75 1 := ⟨by kernel_rfl⟩
instance tZe75 : TZe Try.prog 75 [.nilFunc] := ⟨by kernel_rfl⟩
instance tBy75 : TBy Try.prog 75 8 := ⟨by kernel_rfl⟩
instance tAg76 : TAg Try.prog 76 false := ⟨by kernel_rfl⟩
instance tSize76 : TSize Try.prog 76 1 := ⟨by kernel_rfl⟩
instance tZe76 : TZe Try.prog 76 [.nilFunc] := ⟨by kernel_rfl⟩
instance tBy76 : TBy Try.prog 76 8 := ⟨by kernel_rfl⟩
instance tAg77 : TAg Try.prog 77 false := ⟨by kernel_rfl⟩
instance tSize77 : TSize Try.prog 77 1 := ⟨by kernel_rfl⟩
instance tZe77 : TZe Try.prog 77 [.nilFunc] := ⟨by kernel_rfl⟩
instance tBy77 : TBy Try.prog 77 8 := ⟨by kernel_rfl⟩
instance tAg78 : TAg Try.prog 78 false := ⟨by kernel_rfl⟩
instance tSize78 : TSize Try.prog 78 1 := ⟨by kernel_rfl⟩
instance tZe78 : TZe Try.prog 78 [.slice none 0 0] := ⟨by kernel_rfl⟩
instance tBy78 : TBy Try.prog 78 24 := ⟨by kernel_rfl⟩
instance tEl78 : TEl Try.prog 78 83 := ⟨by kernel_rfl⟩
instance tRo78 : TRo Try.prog 78 83 2 16 := ⟨by kernel_rfl⟩
instance tAg79 : TAg Try.prog 79 false := ⟨by kernel_rfl⟩
instance tSize79 : TSize Try.prog 79 1 := ⟨by kernel_rfl⟩
instance tZe79 : TZe Try.prog 79 [.nilFunc] := ⟨by kernel_rfl⟩
instance tBy79 : TBy Try.prog 79 8 := ⟨by kernel_rfl⟩
instance tAg80 : TAg Try.prog 80 true := ⟨by kernel_rfl⟩
instance tSize80 : TSize Try.prog 80 2 := ⟨by kernel_rfl⟩
instance tZe80 : TZe Try.prog 80 [.int .i64 0, .int .i64 0] := ⟨by kernel_rfl⟩
instance tBy80 : TBy Try.prog 80 16 := ⟨by kernel_rfl⟩
instance tFl80_0 : TFl Try.prog 80 0 0 3 := ⟨by kernel_rfl⟩
instance tFl80_1 : TFl Try.prog 80 1 1 3 := ⟨by kernel_rfl⟩
instance tSt80 : TSt Try.prog 80 [.int .i64 0, .int .i64 0] [(0, 1), (1, 1)] := ⟨by kernel_rfl⟩
instance tAg81 : TAg Try.prog 81 true := ⟨by kernel_rfl⟩
instance tSize81 : TSize Try.prog 81 2 := ⟨by kernel_rfl⟩
instance tZe81 : TZe Try.prog 81 [.int .i64 0, .int .i64 0] := ⟨by kernel_rfl⟩
instance tBy81 : TBy Try.prog 81 16 := ⟨by kernel_rfl⟩
instance tFl81_0 : TFl Try.prog 81 0 0 3 := ⟨by kernel_rfl⟩
instance tFl81_1 : TFl Try.prog 81 1 1 3 := ⟨by kernel_rfl⟩
instance tSt81 : TSt Try.prog 81 [.int .i64 0, .int .i64 0] [(0, 1), (1, 1)] := ⟨by kernel_rfl⟩
instance tAg82 : TAg Try.prog 82 true := ⟨by kernel_rfl⟩
instance tSize82 : TSize Try.prog 82 2 := ⟨by kernel_rfl⟩
instance tZe82 : TZe Try.prog 82 [.int .i64 0, .int .i64 0] := ⟨by kernel_rfl⟩
instance tBy82 : TBy Try.prog 82 16 := ⟨by kernel_rfl⟩
instance tFl82_0 : TFl Try.prog 82 0 0 3 := ⟨by kernel_rfl⟩
instance tFl82_1 : TFl Try.prog 82 1 1 3 := ⟨by kernel_rfl⟩
instance tSt82 : TSt Try.prog 82 [.int .i64 0, .int .i64 0] [(0, 1), (1, 1)] := ⟨by kernel_rfl⟩
instance tAg83 : TAg Try.prog 83 true := ⟨by kernel_rfl⟩
instance tSize83 : TSize Try.prog 83 2 := ⟨by kernel_rfl⟩
instance tZe83 : TZe Try.prog 83 [.int .i64 0, .int .i64 0] := ⟨by kernel_rfl⟩
instance tBy83 : TBy Try.prog 83 16 := ⟨by kernel_rfl⟩
instance tFl83_0 : TFl Try.prog 83 0 0 3 := ⟨by kernel_rfl⟩
instance tFl83_1 : TFl Try.prog 83 1 1 3 := ⟨by kernel_rfl⟩
instance tSt83 : TSt Try.prog 83 [.int .i64 0, .int .i64 0] [(0, 1), (1, 1)] := ⟨by kernel_rfl⟩
instance tAg84 : TAg Try.prog 84 false := ⟨by kernel_rfl⟩
instance tSize84 : TSize Try.prog 84 1 := ⟨by kernel_rfl⟩
instance tZe84 : TZe Try.prog 84 [.nilFunc] := ⟨by kernel_rfl⟩
instance tBy84 : TBy Try.prog 84 8 := ⟨by kernel_rfl⟩
instance tAg86 : TAg Try.prog 86 false := ⟨by kernel_rfl⟩
instance tSize86 : TSize Try.prog 86 1 := ⟨by kernel_rfl⟩
instance tZe86 : TZe Try.prog 86 [.nilFunc] := ⟨by kernel_rfl⟩
instance tBy86 : TBy Try.prog 86 8 := ⟨by kernel_rfl⟩
instance tAg87 : TAg Try.prog 87 false := ⟨by kernel_rfl⟩
instance tSize87 : TSize Try.prog 87 1 := ⟨by kernel_rfl⟩
instance tZe87 : TZe Try.prog 87 [.nilFunc] := ⟨by kernel_rfl⟩
instance tBy87 : TBy Try.prog 87 8 := ⟨by kernel_rfl⟩
instance tAg88 : TAg Try.prog 88 false := ⟨by kernel_rfl⟩
instance tSize88 : TSize Try.prog 88 1 := ⟨by kernel_rfl⟩
instance tZe88 : TZe Try.prog 88 [.nilFunc] := ⟨by kernel_rfl⟩
instance tBy88 : TBy Try.prog 88 8 := ⟨by kernel_rfl⟩
instance tAg89 : TAg Try.prog 89 true := ⟨by kernel_rfl⟩
instance tSize89 : TSize Try.prog 89 2 := ⟨by kernel_rfl⟩
instance tZe89 : TZe Try.prog 89 [.slice none 0 0, .slice none 0 0] := ⟨by kernel_rfl⟩
instance tBy89 : TBy Try.prog 89 48 := ⟨by kernel_rfl⟩
instance tFl89_0 : TFl Try.prog 89 0 0 22 := ⟨by kernel_rfl⟩
instance tFl89_1 : TFl Try.prog 89 1 1 22 := ⟨by kernel_rfl⟩
instance tSt89 : TSt Try.prog 89 [.slice none 0 0, .slice none 0 0] [(0, 1), (1, 1)] := ⟨by kernel_rfl⟩
instance tAg90 : TAg Try.prog 90 true := ⟨by kernel_rfl⟩
instance tSize90 : TSize Try.prog 90 2 := ⟨by kernel_rfl⟩
instance tZe90 : TZe Try.prog 90 [.slice none 0 0, .slice none 0 0] := ⟨by kernel_rfl⟩
instance tBy90 : TBy Try.prog 90 48 := ⟨by kernel_rfl⟩
instance tFl90_0 : TFl Try.prog 90 0 0 22 := ⟨by kernel_rfl⟩
instance tFl90_1 : TFl Try.prog 90 1 1 22 := ⟨by kernel_rfl⟩
instance tSt90 : TSt Try.prog 90 [.slice none 0 0, .slice none 0 0] [(0, 1), (1, 1)] := ⟨by kernel_rfl⟩
instance tAg91 : TAg Try.prog 91 false := ⟨by kernel_rfl⟩
instance tSize91 : TSize Try.prog 91 1 := ⟨by kernel_rfl⟩
instance tZe91 : TZe Try.prog 91 [.pointer none] := ⟨by kernel_rfl⟩
instance tBy91 : TBy Try.prog 91 8 := ⟨by kernel_rfl⟩
instance tAg92 : TAg Try.prog 92 true := ⟨by kernel_rfl⟩
instance tSize92 : TSize Try.prog 92 1 := ⟨by kernel_rfl⟩
instance tZe92 : TZe Try.prog 92 [.slice none 0 0] := ⟨by kernel_rfl⟩
instance tBy92 : TBy Try.prog 92 24 := ⟨by kernel_rfl⟩
instance tFl92_0 : TFl Try.prog 92 0 0 35 := ⟨by kernel_rfl⟩
instance tSt92 : TSt Try.prog 92 [.slice none 0 0] [(0, 1)] := ⟨by kernel_rfl⟩
instance tAg93 : TAg Try.prog 93 true := ⟨by kernel_rfl⟩
instance tSize93 : TSize Try.prog 93 1 := ⟨by kernel_rfl⟩
instance tZe93 : TZe Try.prog 93 [.slice none 0 0] := ⟨by kernel_rfl⟩
instance tBy93 : TBy Try.prog 93 24 := ⟨by kernel_rfl⟩
instance tFl93_0 : TFl Try.prog 93 0 0 35 := ⟨by kernel_rfl⟩
instance tSt93 : TSt Try.prog 93 [.slice none 0 0] [(0, 1)] := ⟨by kernel_rfl⟩
instance tAg94 : TAg Try.prog 94 false := ⟨by kernel_rfl⟩
instance tSize94 : TSize Try.prog 94 1 := ⟨by kernel_rfl⟩
instance tZe94 : TZe Try.prog 94 [.nilFunc] := ⟨by kernel_rfl⟩
instance tBy94 : TBy Try.prog 94 8 := ⟨by kernel_rfl⟩
instance tAg95 : TAg Try.prog 95 false := ⟨by kernel_rfl⟩
instance tSize95 : TSize Try.prog 95 1 := ⟨by kernel_rfl⟩
instance tZe95 : TZe Try.prog 95 [.nilFunc] := ⟨by kernel_rfl⟩
instance tBy95 : TBy Try.prog 95 8 := ⟨by kernel_rfl⟩
instance tAg96 : TAg Try.prog 96 false := ⟨by kernel_rfl⟩
instance tSize96 : TSize Try.prog 96 1 := ⟨by kernel_rfl⟩
instance tZe96 : TZe Try.prog 96 [.nilFunc] := ⟨by kernel_rfl⟩
instance tBy96 : TBy Try.prog 96 8 := ⟨by kernel_rfl⟩
instance tAg97 : TAg Try.prog 97 true := ⟨by kernel_rfl⟩
instance tSize97 : TSize Try.prog 97 3 := ⟨by kernel_rfl⟩
instance tZe97 : TZe Try.prog 97 [.int .i64 0, .int .i64 0, .slice none 0 0] := ⟨by kernel_rfl⟩
instance tBy97 : TBy Try.prog 97 40 := ⟨by kernel_rfl⟩
instance tFl97_0 : TFl Try.prog 97 0 0 28 := ⟨by kernel_rfl⟩
instance tFl97_1 : TFl Try.prog 97 1 2 70 := ⟨by kernel_rfl⟩
instance tSt97 : TSt Try.prog 97 [.int .i64 0, .int .i64 0, .slice none 0 0] [(0, 2), (2, 1)] := ⟨by kernel_rfl⟩
instance tAg98 : TAg Try.prog 98 true := ⟨by kernel_rfl⟩
instance tSize98 : TSize Try.prog 98 3 := ⟨by kernel_rfl⟩
instance tZe98 : TZe Try.prog 98 [.int .i64 0, .int .i64 0, .slice none 0 0] := ⟨by kernel_rfl⟩
instance tBy98 : TBy Try.prog 98 40 := ⟨by kernel_rfl⟩
instance tFl98_0 : TFl Try.prog 98 0 0 28 := ⟨by kernel_rfl⟩
instance tFl98_1 : TFl Try.prog 98 1 2 70 := ⟨by kernel_rfl⟩
instance tSt98 : TSt Try.prog 98 [.int .i64 0, .int .i64 0, .slice none 0 0] [(0, 2), (2, 1)] := ⟨by kernel_rfl⟩
instance tAg99 : TAg Try.prog 99 false := ⟨by kernel_rfl⟩
instance tSize99 : TSize Try.prog 99 1 := ⟨by kernel_rfl⟩
instance tZe99 : TZe Try.prog 99 [.nilFunc] := ⟨by kernel_rfl⟩
instance tBy99 : TBy Try.prog 99 8 := ⟨by kernel_rfl⟩
instance tAg100 : TAg Try.prog 100 false := ⟨by kernel_rfl⟩
instance tSize100 : TSize Try.prog 100 1 := ⟨by kernel_rfl⟩
instance tZe100 : TZe Try.prog 100 [.nilFunc] := ⟨by kernel_rfl⟩
instance tBy100 : TBy Try.prog 100 8 := ⟨by kernel_rfl⟩
instance tAg101 : TAg Try.prog 101 false := ⟨by kernel_rfl⟩
instance tSize101 : TSize Try.prog 101 1 := ⟨by kernel_rfl⟩
instance tZe101 : TZe Try.prog 101 [.nilFunc] := ⟨by kernel_rfl⟩
instance tBy101 : TBy Try.prog 101 8 := ⟨by kernel_rfl⟩
instance tAg102 : TAg Try.prog 102 false := ⟨by kernel_rfl⟩
instance tSize102 : TSize Try.prog 102 1 := ⟨by kernel_rfl⟩
instance tZe102 : TZe Try.prog 102 [.nilFunc] := ⟨by kernel_rfl⟩
instance tBy102 : TBy Try.prog 102 8 := ⟨by kernel_rfl⟩
instance tAg103 : TAg Try.prog 103 false := ⟨by kernel_rfl⟩
instance tSize103 : TSize Try.prog 103 1 := ⟨by kernel_rfl⟩
instance tZe103 : TZe Try.prog 103 [.nilFunc] := ⟨by kernel_rfl⟩
instance tBy103 : TBy Try.prog 103 8 := ⟨by kernel_rfl⟩
instance tAg104 : TAg Try.prog 104 false := ⟨by kernel_rfl⟩
instance tSize104 : TSize Try.prog 104 1 := ⟨by kernel_rfl⟩
instance tZe104 : TZe Try.prog 104 [.nilFunc] := ⟨by kernel_rfl⟩
instance tBy104 : TBy Try.prog 104 8 := ⟨by kernel_rfl⟩
instance tAg105 : TAg Try.prog 105 false := ⟨by kernel_rfl⟩
instance tSize105 : TSize Try.prog 105 1 := ⟨by kernel_rfl⟩
instance tZe105 : TZe Try.prog 105 [.nilFunc] := ⟨by kernel_rfl⟩
instance tBy105 : TBy Try.prog 105 8 := ⟨by kernel_rfl⟩
instance tAg106 : TAg Try.prog 106 false := ⟨by kernel_rfl⟩
instance tSize106 : TSize Try.prog 106 1 := ⟨by kernel_rfl⟩
instance tZe106 : TZe Try.prog 106 [.nilFunc] := ⟨by kernel_rfl⟩
instance tBy106 : TBy Try.prog 106 8 := ⟨by kernel_rfl⟩
instance tAg107 : TAg Try.prog 107 false := ⟨by kernel_rfl⟩
instance tSize107 : TSize Try.prog 107 1 := ⟨by kernel_rfl⟩
instance tZe107 : TZe Try.prog 107 [.nilFunc] := ⟨by kernel_rfl⟩
instance tBy107 : TBy Try.prog 107 8 := ⟨by kernel_rfl⟩
instance tAg108 : TAg Try.prog 108 false := ⟨by kernel_rfl⟩
instance tSize108 : TSize Try.prog 108 1 := ⟨by kernel_rfl⟩
instance tZe108 : TZe Try.prog 108 [.nilFunc] := ⟨by kernel_rfl⟩
instance tBy108 : TBy Try.prog 108 8 := ⟨by kernel_rfl⟩
instance tAg110 : TAg Try.prog 110 false := ⟨by kernel_rfl⟩
instance tSize110 : TSize Try.prog 110 1 := ⟨by kernel_rfl⟩
instance tZe110 : TZe Try.prog 110 [.nilFunc] := ⟨by kernel_rfl⟩
instance tBy110 : TBy Try.prog 110 8 := ⟨by kernel_rfl⟩
instance tAg111 : TAg Try.prog 111 false := ⟨by kernel_rfl⟩
instance tSize111 : TSize Try.prog 111 1 := ⟨by kernel_rfl⟩
instance tZe111 : TZe Try.prog 111 [.nilFunc] := ⟨by kernel_rfl⟩
instance tBy111 : TBy Try.prog 111 8 := ⟨by kernel_rfl⟩
instance tAg112 : TAg Try.prog 112 false := ⟨by kernel_rfl⟩
instance tSize112 : TSize Try.prog 112 1 := ⟨by kernel_rfl⟩
instance tZe112 : TZe Try.prog 112 [.nilFunc] := ⟨by kernel_rfl⟩
instance tBy112 : TBy Try.prog 112 8 := ⟨by kernel_rfl⟩
instance tAg113 : TAg Try.prog 113 false := ⟨by kernel_rfl⟩
instance tSize113 : TSize Try.prog 113 1 := ⟨by kernel_rfl⟩
instance tZe113 : TZe Try.prog 113 [.nilFunc] := ⟨by kernel_rfl⟩
instance tBy113 : TBy Try.prog 113 8 := ⟨by kernel_rfl⟩
instance tAg114 : TAg Try.prog 114 false := ⟨by kernel_rfl⟩
instance tSize114 : TSize Try.prog 114 1 := ⟨by kernel_rfl⟩
instance tZe114 : TZe Try.prog 114 [.nilFunc] := ⟨by kernel_rfl⟩
instance tBy114 : TBy Try.prog 114 8 := ⟨by kernel_rfl⟩
instance tAg115 : TAg Try.prog 115 false := ⟨by kernel_rfl⟩
instance tSize115 : TSize Try.prog 115 1 := ⟨by kernel_rfl⟩
instance tZe115 : TZe Try.prog 115 [.nilFunc] := ⟨by kernel_rfl⟩
instance tBy115 : TBy Try.prog 115 8 := ⟨by kernel_rfl⟩
instance tAg116 : TAg Try.prog 116 false := ⟨by kernel_rfl⟩
instance tSize116 : TSize Try.prog 116 1 := ⟨by kernel_rfl⟩
instance tZe116 : TZe Try.prog 116 [.nilFunc] := ⟨by kernel_rfl⟩
instance tBy116 : TBy Try.prog 116 8 := ⟨by kernel_rfl⟩
instance tAg117 : TAg Try.prog 117 false := ⟨by kernel_rfl⟩
instance tSize117 : TSize Try.prog 117 1 := ⟨by kernel_rfl⟩
instance tZe117 : TZe Try.prog 117 [.nilFunc] := ⟨by kernel_rfl⟩
instance tBy117 : TBy Try.prog 117 8 := ⟨by kernel_rfl⟩
instance tAg118 : TAg Try.prog 118 false := ⟨by kernel_rfl⟩
instance tSize118 : TSize Try.prog 118 1 := ⟨by kernel_rfl⟩
instance tZe118 : TZe Try.prog 118 [.slice none 0 0] := ⟨by kernel_rfl⟩
instance tBy118 : TBy Try.prog 118 24 := ⟨by kernel_rfl⟩
instance tEl118 : TEl Try.prog 118 9 := ⟨by kernel_rfl⟩
instance tRo118 : TRo Try.prog 118 9 1 16 := ⟨by kernel_rfl⟩
instance tAg119 : TAg Try.prog 119 false := ⟨by kernel_rfl⟩
instance tSize119 : TSize Try.prog 119 1 := ⟨by kernel_rfl⟩
instance tZe119 : TZe Try.prog 119 [.slice none 0 0] := ⟨by kernel_rfl⟩
instance tBy119 : TBy Try.prog 119 24 := ⟨by kernel_rfl⟩
instance tEl119 : TEl Try.prog 119 123 := ⟨by kernel_rfl⟩
instance tRo119 : TRo Try.prog 119 123 4 48 := ⟨by kernel_rfl⟩
instance tAg120 : TAg Try.prog 120 false := ⟨by kernel_rfl⟩
instance tSize120 : TSize Try.prog 120 1 := ⟨by kernel_rfl⟩
instance tZe120 : TZe Try.prog 120 [.nilFunc] := ⟨by kernel_rfl⟩
instance tBy120 : TBy Try.prog 120 8 := ⟨by kernel_rfl⟩
instance tAg121 : TAg Try.prog 121 false := ⟨by kernel_rfl⟩
instance tSize121 : TSize Try.prog 121 1 := ⟨by kernel_rfl⟩
instance tZe121 : TZe Try.prog 121 [.nilFunc] := ⟨by kernel_rfl⟩
instance tBy121 : TBy Try.prog 121 8 := ⟨by kernel_rfl⟩
instance tAg122 : TAg Try.prog 122 true := ⟨by kernel_rfl⟩
instance tSize122 : TSize Try.prog 122 4 := ⟨by kernel_rfl⟩
instance tZe122 : TZe Try.prog 122 [.int .i64 0, .int .i64 0, .int .i64 0, .slice none 0 0] := ⟨by kernel_rfl⟩
instance tBy122 : TBy Try.prog 122 48 := ⟨by kernel_rfl⟩
instance tFl122_0 : TFl Try.prog 122 0 0 3 := ⟨by kernel_rfl⟩
instance tFl122_1 : TFl Try.prog 122 1 1 98 := ⟨by kernel_rfl⟩
instance tSt122 : TSt Try.prog 122 [.int .i64 0, .int .i64 0, .int .i64 0, .slice none 0 0] [(0, 1), (1, 3)] := ⟨by kernel_rfl⟩
instance tAg123 : TAg Try.prog 123 true := ⟨by kernel_rfl⟩
instance tSize123 : TSize Try.prog 123 4 := ⟨by kernel_rfl⟩
instance tZe123 : TZe Try.prog 123 [.int .i64 0, .int .i64 0, .int .i64 0, .slice none 0 0] := ⟨by kernel_rfl⟩
instance tBy123 : TBy Try.prog 123 48 := ⟨by kernel_rfl⟩
instance tFl123_0 : TFl Try.prog 123 0 0 3 := ⟨by kernel_rfl⟩
instance tFl123_1 : TFl Try.prog 123 1 1 98 := ⟨by kernel_rfl⟩
instance tSt123 : TSt Try.prog 123 [.int .i64 0, .int .i64 0, .int .i64 0, .slice none 0 0] [(0, 1), (1, 3)] := ⟨by kernel_rfl⟩
instance tAg124 : TAg Try.prog 124 false := ⟨by kernel_rfl⟩
instance tSize124 : TSize Try.prog 124 1 := ⟨by kernel_rfl⟩
instance tZe124 : TZe Try.prog 124 [.nilFunc] := ⟨by kernel_rfl⟩
instance tBy124 : TBy Try.prog 124 8 := ⟨by kernel_rfl⟩
instance tAg125 : TAg Try.prog 125 false := ⟨by kernel_rfl⟩
instance tSize125 : TSize Try.prog 125 1 := ⟨by kernel_rfl⟩
instance tZe125 : TZe Try.prog 125 [.nilFunc] := ⟨by kernel_rfl⟩
instance tBy125 : TBy Try.prog 125 8 := ⟨by kernel_rfl⟩
instance tAg126 : TAg Try.prog 126 true := ⟨by kernel_rfl⟩
instance tSize126 : TSize Try.prog 126 2 := ⟨by kernel_rfl⟩
instance tZe126 : TZe Try.prog 126 [.int .i64 0, .int .i64 0] := ⟨by kernel_rfl⟩
instance tBy126 : TBy Try.prog 126 16 := ⟨by kernel_rfl⟩
instance tFl126_0 : TFl Try.prog 126 0 0 3 := ⟨by kernel_rfl⟩
instance tFl126_1 : TFl Try.prog 126 1 1 3 := ⟨by kernel_rfl⟩
instance tSt126 : TSt Try.prog 126 [.int .i64 0, .int .i64 0] [(0, 1), (1, 1)] := ⟨by kernel_rfl⟩
instance tAg127 : TAg Try.prog 127 true := ⟨by kernel_rfl⟩
instance tSize127 : TSize Try.prog 127 2 := ⟨by kernel_rfl⟩
instance tZe127 : TZe Try.prog 127 [.int .i64 0, .int .i64 0] := ⟨by kernel_rfl⟩
instance tBy127 : TBy Try.prog 127 16 := ⟨by kernel_rfl⟩
instance tFl127_0 : TFl Try.prog 127 0 0 3 := ⟨by kernel_rfl⟩
instance tFl127_1 : TFl Try.prog 127 1 1 3 := ⟨by kernel_rfl⟩
instance tSt127 : TSt Try.prog 127 [.int .i64 0, .int .i64 0] [(0, 1), (1, 1)] := ⟨by kernel_rfl⟩
instance tAg128 : TAg Try.prog 128 true := ⟨by kernel_rfl⟩
instance tSize128 : TSize Try.prog 128 4 := ⟨by kernel_rfl⟩
instance tZe128 : TZe Try.prog 128 [.bool false, .int .i64 0, .int .i64 0, .int .i64 0] := ⟨by kernel_rfl⟩
instance tBy128 : TBy Try.prog 128 32 := ⟨by kernel_rfl⟩
instance tFl128_0 : TFl Try.prog 128 0 0 4 := ⟨by kernel_rfl⟩
instance tFl128_1 : TFl Try.prog 128 1 1 3 := ⟨by kernel_rfl⟩
instance tFl128_2 : TFl Try.prog 128 2 2 127 := ⟨by kernel_rfl⟩
instance tSt128 : TSt Try.prog 128 [.bool false, .int .i64 0, .int .i64 0, .int .i64 0] [(0, 1), (1, 1), (2, 2)] := ⟨by kernel_rfl⟩
instance tAg129 : TAg Try.prog 129 true := ⟨by kernel_rfl⟩
instance tSize129 : TSize Try.prog 129 4 := ⟨by kernel_rfl⟩
instance tZe129 : TZe Try.prog 129 [.bool false, .int .i64 0, .int .i64 0, .int .i64 0] := ⟨by kernel_rfl⟩
instance tBy129 : TBy Try.prog 129 32 := ⟨by kernel_rfl⟩
instance tFl129_0 : TFl Try.prog 129 0 0 4 := ⟨by kernel_rfl⟩
instance tFl129_1 : TFl Try.prog 129 1 1 3 := ⟨by kernel_rfl⟩
instance tFl129_2 : TFl Try.prog 129 2 2 127 := ⟨by kernel_rfl⟩
instance tSt129 : TSt Try.prog 129 [.bool false, .int .i64 0, .int .i64 0, .int .i64 0] [(0, 1), (1, 1), (2, 2)] := ⟨by kernel_rfl⟩
instance tAg130 : TAg Try.prog 130 true := ⟨by kernel_rfl⟩
instance tSize130 : TSize Try.prog 130 11 := ⟨by kernel_rfl⟩
instance tZe130 : TZe Try.prog 130 [.int .i64 0, .int .i64 0, .int .i64 0, .bool false, .int .i64 0, .int .i64 0, .int .i64 0, .bool false, .int .i64 0, .int .i64 0, .int .i64 0] := ⟨by kernel_rfl⟩
instance tBy130 : TBy Try.prog 130 88 := ⟨by kernel_rfl⟩
instance tFl130_0 : TFl Try.prog 130 0 0 3 := ⟨by kernel_rfl⟩
instance tFl130_1 : TFl Try.prog 130 1 1 127 := ⟨by kernel_rfl⟩
instance tFl130_2 : TFl Try.prog 130 2 3 129 := ⟨by kernel_rfl⟩
instance tFl130_3 : TFl Try.prog 130 3 7 129 := ⟨by kernel_rfl⟩
instance tSt130 : TSt Try.prog 130 [.int .i64 0, .int .i64 0, .int .i64 0, .bool false, .int .i64 0, .int .i64 0, .int .i64 0, .bool false, .int .i64 0, .int .i64 0, .int .i64 0] [(0, 1), (1, 2), (3, 4), (7, 4)] := ⟨by kernel_rfl⟩
instance tAg131 : TAg Try.prog 131 true := ⟨by kernel_rfl⟩
instance tSize131 : TSize Try.prog 131 11 := ⟨by kernel_rfl⟩
instance tZe131 : TZe Try.prog 131 [.int .i64 0, .int .i64 0, .int .i64 0, .bool false, .int .i64 0, .int .i64 0, .int .i64 0, .bool false, .int .i64 0, .int .i64 0, .int .i64 0] := ⟨by kernel_rfl⟩
instance tBy131 : TBy Try.prog 131 88 := ⟨by kernel_rfl⟩
instance tFl131_0 : TFl Try.prog 131 0 0 3 := ⟨by kernel_rfl⟩
instance tFl131_1 : TFl Try.prog 131 1 1 127 := ⟨by kernel_rfl⟩
instance tFl131_2 : TFl Try.prog 131 2 3 129 := ⟨by kernel_rfl⟩
instance tFl131_3 : TFl Try.prog 131 3 7 129 := ⟨by kernel_rfl⟩
instance tSt131 : TSt Try.prog 131 [.int .i64 0, .int .i64 0, .int .i64 0, .bool false, .int .i64 0, .int .i64 0, .int .i64 0, .bool false, .int .i64 0, .int .i64 0, .int .i64 0] [(0, 1), (1, 2), (3, 4), (7, 4)] := ⟨by kernel_rfl⟩
instance tAg132 : TAg Try.prog 132 false := ⟨by kernel_rfl⟩
instance tSize132 : TSize Try.prog 132 1 := ⟨by kernel_rfl⟩
instance tZe132 : TZe Try.prog 132 [.nilFunc] := ⟨by kernel_rfl⟩
instance tBy132 : TBy Try.prog 132 8 := ⟨by kernel_rfl⟩
instance tAg133 : TAg Try.prog 133 false := ⟨by kernel_rfl⟩
instance tSize133 : TSize Try.prog 133 1 := ⟨by kernel_rfl⟩
instance tZe133 : TZe Try.prog 133 [.nilFunc] := ⟨by kernel_rfl⟩
instance tBy133 : TBy Try.prog 133 8 := ⟨by kernel_rfl⟩
instance tAg134 : TAg Try.prog 134 false := ⟨by kernel_rfl⟩
instance tSize134 : TSize Try.prog 134 1 := ⟨by kernel_rfl⟩
instance tZe134 : TZe Try.prog 134 [.nilFunc] := ⟨by kernel_rfl⟩
instance tBy134 : TBy Try.prog 134 8 := ⟨by kernel_rfl⟩
instance tAg135 : TAg Try.prog 135 false := ⟨by kernel_rfl⟩
instance tSize135 : TSize Try.prog 135 1 := ⟨by kernel_rfl⟩
instance tZe135 : TZe Try.prog 135 [.nilFunc] := ⟨by kernel_rfl⟩
instance tBy135 : TBy Try.prog 135 8 := ⟨by kernel_rfl⟩
instance tAg136 : TAg Try.prog 136 false := ⟨by kernel_rfl⟩
instance tSize136 : TSize Try.prog 136 1 := ⟨by kernel_rfl⟩
instance tZe136 : TZe Try.prog 136 [.nilFunc] := ⟨by kernel_rfl⟩
instance tBy136 : TBy Try.prog 136 8 := ⟨by kernel_rfl⟩
instance tAg137 : TAg Try.prog 137 false := ⟨by kernel_rfl⟩
instance tSize137 : TSize Try.prog 137 1 := ⟨by kernel_rfl⟩
instance tZe137 : TZe Try.prog 137 [.int .u64 0] := ⟨by kernel_rfl⟩
instance tBy137 : TBy Try.prog 137 8 := ⟨by kernel_rfl⟩
instance tAg138 : TAg Try.prog 138 false := ⟨by kernel_rfl⟩
instance tSize138 : TSize Try.prog 138 1 := ⟨by kernel_rfl⟩
instance tZe138 : TZe Try.prog 138 [.nilFunc] := ⟨by kernel_rfl⟩
instance tBy138 : TBy Try.prog 138 8 := ⟨by kernel_rfl⟩
instance tAg139 : TAg Try.prog 139 false := ⟨by kernel_rfl⟩
instance tSize139 : TSize Try.prog 139 1 := ⟨by kernel_rfl⟩
instance tZe139 : TZe Try.prog 139 [.nilFunc] := ⟨by kernel_rfl⟩
instance tBy139 : TBy Try.prog 139 8 := ⟨by kernel_rfl⟩
instance tAg140 : TAg Try.prog 140 false := ⟨by kernel_rfl⟩
instance tSize140 : TSize Try.prog 140 1 := ⟨by kernel_rfl⟩
instance tZe140 : TZe Try.prog 140 [.nilFunc] := ⟨by kernel_rfl⟩
instance tBy140 : TBy Try.prog 140 8 := ⟨by kernel_rfl⟩
instance tAg141 : TAg Try.prog 141 false := ⟨by kernel_rfl⟩
instance tSize141 : TSize Try.prog 141 1 := ⟨by kernel_rfl⟩
instance tZe141 : TZe Try.prog 141 [.nilFunc] := ⟨by kernel_rfl⟩
instance tBy141 : TBy Try.prog 141 8 := ⟨by kernel_rfl⟩
instance tAg142 : TAg Try.prog 142 false := ⟨by kernel_rfl⟩
instance tSize142 : TSize Try.prog 142 1 := ⟨by kernel_rfl⟩
instance tZe142 : TZe Try.prog 142 [.nilFunc] := ⟨by kernel_rfl⟩
instance tBy142 : TBy Try.prog 142 8 := ⟨by kernel_rfl⟩
instance tAg143 : TAg Try.prog 143 false := ⟨by kernel_rfl⟩
instance tSize143 : TSize Try.prog 143 1 := ⟨by kernel_rfl⟩
instance tZe143 : TZe Try.prog 143 [.nilFunc] := ⟨by kernel_rfl⟩
instance tBy143 : TBy Try.prog 143 8 := ⟨by kernel_rfl⟩
instance tAg144 : TAg Try.prog 144 false := ⟨by kernel_rfl⟩
instance tSize144 : TSize Try.prog 144 1 := ⟨by kernel_rfl⟩
instance tZe144 : TZe Try.prog 144 [.nilFunc] := ⟨by kernel_rfl⟩
instance tBy144 : TBy Try.prog 144 8 := ⟨by kernel_rfl⟩
instance tAg145 : TAg Try.prog 145 false := ⟨by kernel_rfl⟩
instance tSize145 : TSize Try.prog 145 1 := ⟨by kernel_rfl⟩
instance tZe145 : TZe Try.prog 145 [.nilFunc] := ⟨by kernel_rfl⟩
instance tBy145 : TBy Try.prog 145 8 := ⟨by kernel_rfl⟩
instance tAg146 : TAg Try.prog 146 false := ⟨by kernel_rfl⟩
instance tSize146 : TSize Try.prog 146 1 := ⟨by kernel_rfl⟩
instance tZe146 : TZe Try.prog 146 [.nilFunc] := ⟨by kernel_rfl⟩
instance tBy146 : TBy Try.prog 146 8 := ⟨by kernel_rfl⟩
instance tAg147 : TAg Try.prog 147 false := ⟨by kernel_rfl⟩
instance tSize147 : TSize Try.prog 147 1 := ⟨by kernel_rfl⟩
instance tZe147 : TZe Try.prog 147 [.nilFunc] := ⟨by kernel_rfl⟩
instance tBy147 : TBy Try.prog 147 8 := ⟨by kernel_rfl⟩
instance tAg148 : TAg Try.prog 148 false := ⟨by kernel_rfl⟩
instance tSize148 : TSize Try.prog 148 1 := ⟨by kernel_rfl⟩
instance tZe148 : TZe Try.prog 148 [.nilFunc] := ⟨by kernel_rfl⟩
instance tBy148 : TBy Try.prog 148 8 := ⟨by kernel_rfl⟩
instance tAg149 : TAg Try.prog 149 false := ⟨by kernel_rfl⟩
instance tSize149 : TSize Try.prog 149 1 := ⟨by kernel_rfl⟩
instance tZe149 : TZe Try.prog 149 [.nilFunc] := ⟨by kernel_rfl⟩
instance tBy149 : TBy Try.prog 149 8 := ⟨by kernel_rfl⟩
instance tAg155 : TAg Try.prog 155 false := ⟨by kernel_rfl⟩
instance tSize155 : TSize Try.prog 155 1 := ⟨by kernel_rfl⟩
instance tZe155 : TZe Try.prog 155 [.int .u32 0] := ⟨by kernel_rfl⟩
instance tBy155 : TBy Try.prog 155 4 := ⟨by kernel_rfl⟩
instance tAg158 : TAg Try.prog 158 false := ⟨by kernel_rfl⟩
instance tSize158 : TSize Try.prog 158 1 := ⟨by kernel_rfl⟩
instance tZe158 : TZe Try.prog 158 [.nilFunc] := ⟨by kernel_rfl⟩
instance tBy158 : TBy Try.prog 158 8 := ⟨by kernel_rfl⟩
instance tAg159 : TAg Try.prog 159 false := ⟨by kernel_rfl⟩
instance tSize159 : TSize Try.prog 159 1 := ⟨by kernel_rfl⟩
instance tZe159 : TZe Try.prog 159 [.pointer none] := ⟨by kernel_rfl⟩
instance tBy159 : TBy Try.prog 159 8 := ⟨by kernel_rfl⟩
instance tAg164 : TAg Try.prog 164 false := ⟨by kernel_rfl⟩
instance tSize164 : TSize Try.prog 164 1 := ⟨by kernel_rfl⟩
instance tZe164 : TZe Try.prog 164 [.pointer none] := ⟨by kernel_rfl⟩
instance tBy164 : TBy Try.prog 164 8 := ⟨by kernel_rfl⟩
end Go.Proofs.Ytcfleoaldoebhaa

namespace Go.Proofs.Ytcfleoaldoebhaa
set_option linter.unusedSimpArgs false
set_option linter.unusedVariables false
abbrev iA (n : Int) : AV := .prim (.int .i64 n)
abbrev bA (b : Bool) : AV := .prim (.bool b)
abbrev sA (l : List UInt8) : AV := .prim (strA l)
def fieldA (f : Field) : AV := .agg [sA f.name, iA f.bits, iA f.low]
abbrev fieldsA (o : Bool) (l : List Field) : AV := .lst o 62 3 (l.map fieldA)
def kindA (o : Bool) (k : Kind) : AV := .agg [sA k.name, fieldsA o k.fields]
abbrev kindsA (o o' : Bool) (l : List Kind) : AV := .lst o 51 2 (l.map (kindA o'))
abbrev intsA (o : Bool) (l : List Int) : AV := .lst o 3 1 (l.map iA)
instance {f : Field} : Frz (fieldA f) (fieldA f) := ⟨rfl⟩
instance {o : Bool} {k : Kind} : Frz (kindA o k) (kindA false k) := ⟨by unfold kindA; exact Frz.h⟩
def compA (o : Bool) (c : Comp) : AV := .agg [iA c.kind, intsA o c.vals]
abbrev compsA (o o' : Bool) (l : List Comp) : AV := .lst o 58 2 (l.map (compA o'))
def itemA (o : Bool) (x : Item) : AV := .agg [iA x.ent.n, iA x.ent.gen, compsA o o x.comps]
abbrev itemsA (o o' : Bool) (l : List Item) : AV := .lst o 98 3 (l.map (itemA o'))
def wdA (o : Bool) (w : Wd) : AV := .agg [kindsA o o w.kinds, intsA o w.gens, itemsA o o w.items]
def entA (e : Ent) : AV := .agg [iA e.n, iA e.gen]
def evtA (e : Evt) : AV := .agg [iA e.sys, iA e.ent.n, iA e.ent.gen, iA e.val]
instance {e : Ent} : Frz (entA e) (entA e) := ⟨rfl⟩
instance {e : Evt} : Frz (evtA e) (evtA e) := ⟨rfl⟩
instance {o : Bool} {k : Comp} : Frz (compA o k) (compA false k) := ⟨by unfold compA; exact Frz.h⟩
instance {o : Bool} {k : Item} : Frz (itemA o k) (itemA false k) := ⟨by unfold itemA; exact Frz.h⟩
instance {o : Bool} {k : Wd} : Frz (wdA o k) (wdA false k) := ⟨by unfold wdA; exact Frz.h⟩
theorem frzs_same {α : Type} (f : α → AV) (h : ∀ a, (f a).frz = f a) (l : List α) : AV.frzs (l.map f) = l.map f := by
  rw [frzs_map, List.map_map]
  exact List.map_congr_left fun a _ => h a
theorem intsA_frz (o : Bool) (l : List Int) : (intsA o l).frz = intsA false l := by
  show AV.lst false _ _ (AV.frzs (l.map iA)) = _
  rw [frzs_same _ fun _ => rfl]
end Go.Proofs.Ytcfleoaldoebhaa

namespace Go.Proofs.Ytcfleoaldoebhaa
set_option linter.unusedSimpArgs false
set_option linter.unusedVariables false

def nextV (l : List Int) (n : Int) : Int := if n < 1 then 0 else match l with | [] => 0 | x :: _ => x % n
def nextL (l : List Int) (n : Int) : List Int := if n < 1 then l else l.tail
theorem nextV_range (l : List Int) {n : Int} (h : 1 ≤ n) : 0 ≤ nextV l n ∧ nextV l n < n := by
  unfold nextV
  rw [if_neg (by omega)]
  split
  · omega
  · rename_i x _
    exact ⟨Int.emod_nonneg x (by omega), Int.emod_lt_of_pos x (by omega)⟩
theorem nextL_len (l : List Int) (n : Int) : (nextL l n).length ≤ l.length := by
  unfold nextL
  split
  · exact Nat.le_refl _
  · rw [List.length_tail]; omega

/-- The names of kinds: spot, life, team, goal. -/
def kindName (k : Nat) : List UInt8 := match k with
  | 0 => [115, 112, 111, 116]
  | 1 => [108, 105, 102, 101]
  | 2 => [116, 101, 97, 109]
  | _ => [103, 111, 97, 108]
/-- The names of fields: x, y, z. -/
def fieldName (k : Nat) : List UInt8 := match k with
  | 0 => [120]
  | 1 => [121]
  | _ => [122]
def genField (i : Nat) (l : List Int) : Field × List Int :=
  if nextV (nextL (nextL l 9) 40) 8 = 7 then (⟨fieldName i, 32, -2147483648⟩, nextL (nextL (nextL l 9) 40) 8)
  else (⟨fieldName i, 1 + nextV l 9, nextV (nextL l 9) 40 - 30⟩, nextL (nextL (nextL l 9) 40) 8)
def genFields : Nat → Nat → List Int → List Field × List Int
  | _, 0, l => ([], l)
  | i, c + 1, l => ((genField i l).1 :: (genFields (i + 1) c (genField i l).2).1, (genFields (i + 1) c (genField i l).2).2)
def genKind (k : Nat) (l : List Int) : Kind × List Int :=
  (⟨kindName k, (genFields 0 (1 + nextV l 3).toNat (nextL l 3)).1⟩, (genFields 0 (1 + nextV l 3).toNat (nextL l 3)).2)
def genKindsFrom : Nat → Nat → List Int → List Kind × List Int
  | _, 0, l => ([], l)
  | k, c + 1, l => ((genKind k l).1 :: (genKindsFrom (k + 1) c (genKind k l).2).1, (genKindsFrom (k + 1) c (genKind k l).2).2)
def genKinds (l : List Int) : List Kind × List Int := genKindsFrom 0 (1 + nextV l 4).toNat (nextL l 4)
end Go.Proofs.Ytcfleoaldoebhaa

namespace Go.Proofs.Ytcfleoaldoebhaa
set_option linter.unusedSimpArgs false
set_option linter.unusedVariables false
/-- The values for the first i fields. -/
def vAt (fs : List Field) (l : List Int) : Nat → List Int × List Int
  | 0 => ([], l)
  | i + 1 => match fs[i]? with
    | some f => ((vAt fs l i).1 ++ [f.low + nextV (vAt fs l i).2 (2 ^ f.bits.toNat)], nextL (vAt fs l i).2 (2 ^ f.bits.toNat))
    | none => vAt fs l i
/-- The components of the first i kinds. -/
def cAt (ks : List Kind) (l : List Int) : Nat → List Comp × List Int
  | 0 => ([], l)
  | i + 1 => match ks[i]? with
    | some k => if nextV (cAt ks l i).2 3 = 2 then ((cAt ks l i).1, nextL (cAt ks l i).2 3)
      else ((cAt ks l i).1 ++ [⟨i, (vAt k.fields (nextL (cAt ks l i).2 3) k.fields.length).1⟩], (vAt k.fields (nextL (cAt ks l i).2 3) k.fields.length).2)
    | none => cAt ks l i
def genComps (ks : List Kind) (l : List Int) : List Comp × List Int := cAt ks l ks.length
/-- The generations and items of the first i slots. -/
def wAt (ks : List Kind) (l : List Int) : Nat → List Int × List Item × List Int
  | 0 => ([], [], l)
  | i + 1 =>
    if nextV (nextL (wAt ks l i).2.2 3) 4 = 3 ∨ (wAt ks l i).2.1.length = 8 then ((wAt ks l i).1 ++ [nextV (wAt ks l i).2.2 3], (wAt ks l i).2.1, nextL (nextL (wAt ks l i).2.2 3) 4)
    else ((wAt ks l i).1 ++ [nextV (wAt ks l i).2.2 3], (wAt ks l i).2.1 ++ [⟨⟨i, nextV (wAt ks l i).2.2 3⟩, (genComps ks (nextL (nextL (wAt ks l i).2.2 3) 4)).1⟩], (genComps ks (nextL (nextL (wAt ks l i).2.2 3) 4)).2)
def genWorld (l : List Int) : Wd :=
  ⟨(genKinds l).1, (wAt (genKinds l).1 (nextL (genKinds l).2 12) (nextV (genKinds l).2 12).toNat).1, (wAt (genKinds l).1 (nextL (genKinds l).2 12) (nextV (genKinds l).2 12).toNat).2.1⟩
/-- Fields whose values are small numbers. -/
def FieldOK (f : Field) : Prop := 0 ≤ f.bits ∧ f.bits ≤ 32 ∧ -2147483648 ≤ f.low ∧ f.low ≤ 2147483648
def KindsOK (ks : List Kind) : Prop := ks.length ≤ 1099511627776 ∧ ∀ k ∈ ks, k.fields.length ≤ 1099511627776 ∧ ∀ f ∈ k.fields, FieldOK f
end Go.Proofs.Ytcfleoaldoebhaa

namespace Go.Proofs.Ytcfleoaldoebhaa
set_option linter.unusedSimpArgs false
set_option linter.unusedVariables false
def sysName (n : Nat) : List UInt8 := match n with
  | 0 => [111, 110, 101]
  | 1 => [116, 119, 111]
  | 2 => [116, 104, 114, 101, 101]
  | 3 => [102, 111, 117, 114]
  | 4 => [102, 105, 118, 101]
  | _ => [115, 105, 120]
/-- The number of fields of a kind. -/
def flds (ks : List Kind) (i : Int) : Int := match ks[i.toNat]? with
  | some k => k.fields.length
  | none => 0
/-- The argument that a stream gives, and the stream behind it. -/
def argOf (ks : List Kind) (seen : List Int) (l : List Int) : Arg × List Int :=
  if nextV l 2 = 0 then (⟨false, nextV (nextL l 2) 20 - 6, ⟨0, 0⟩⟩, nextL (nextL l 2) 20)
  else (⟨true, 0, ⟨seen.getD (nextV (nextL l 2) seen.length).toNat 0, nextV (nextL (nextL l 2) seen.length) (flds ks (seen.getD (nextV (nextL l 2) seen.length).toNat 0))⟩⟩,
    nextL (nextL (nextL l 2) seen.length) (flds ks (seen.getD (nextV (nextL l 2) seen.length).toNat 0)))
/-- A reference to a field that there is. -/
def RefOK (ks : List Kind) (r : Ref) : Prop := 0 ≤ r.kind ∧ r.kind < ks.length ∧ 0 ≤ r.field ∧ r.field < flds ks r.kind
def ArgOK (ks : List Kind) (seen : List Int) (a : Arg) : Prop := (a.has = true → a.n = 0 ∧ RefOK ks a.ref ∧ a.ref.kind ∈ seen) ∧ (a.has = false → -6 ≤ a.n ∧ a.n ≤ 13 ∧ a.ref = ⟨0, 0⟩)
def arg0 : Arg := ⟨false, 0, ⟨0, 0⟩⟩
/-- Does an operation use its second argument? -/
def twoOp (d : Int) : Bool := (decide (1 ≤ d) && decide (d ≤ 6)) || decide (d = 12)
structure OpOK (ks : List Kind) (reads writes : List Int) (o : Op) : Prop where
  lo : 0 ≤ o.act
  hi : o.act ≤ 12
  a : ArgOK ks (reads ++ writes) o.a
  b : if twoOp o.act then ArgOK ks (reads ++ writes) o.b else o.b = arg0
  sets : o.act ≤ 7 → RefOK ks o.to ∧ o.to.kind ∈ writes
  puts : o.act = 8 ∨ o.act = 9 → 0 ≤ o.to.kind ∧ o.to.kind < ks.length ∧ o.to.field = 0
  none : 10 ≤ o.act → o.to = ⟨0, 0⟩
/-- The lists of kinds of a system. -/
structure SysL (w1 w2 w3 w4 : List Int) (n : Int) : Prop where
  o1 : w1.Pairwise (· < ·)
  o2 : w2.Pairwise (· < ·)
  o3 : w3.Pairwise (· < ·)
  o4 : w4.Pairwise (· < ·)
  r1 : ∀ x ∈ w1, 0 ≤ x ∧ x < n
  r2 : ∀ x ∈ w2, 0 ≤ x ∧ x < n
  d : ∀ x ∈ w1, x ∉ w2
  s3 : ∀ x ∈ w3, x ∈ w1
  s4 : ∀ x ∈ w4, x ∈ w1
  all : ∀ x ∈ w1, x ∈ w3 ∨ x ∈ w4
structure SysOK (ks : List Kind) (n : Nat) (s : Sys) : Prop where
  name : s.name = sysName n
  lists : SysL s.wth s.wout s.reads s.writes ks.length
  some : s.wth ≠ []
  len : s.ops.length ≤ 5
  ops : ∀ o ∈ s.ops, OpOK ks s.reads s.writes o
  spawn : s.spawn = [] ∨ ∃ q, s.spawn = (genComps ks q).1
theorem SysL.nil (n : Int) : SysL [] [] [] [] n := ⟨.nil, .nil, .nil, .nil, by simp, by simp, by simp, by simp, by simp, by simp⟩
theorem SysL.weaken {w1 w2 w3 w4 : List Int} {n m : Int} (h : SysL w1 w2 w3 w4 n) (hm : n ≤ m) : SysL w1 w2 w3 w4 m :=
  ⟨h.o1, h.o2, h.o3, h.o4, fun x hx => ⟨(h.r1 x hx).1, by have := (h.r1 x hx).2; omega⟩, fun x hx => ⟨(h.r2 x hx).1, by have := (h.r2 x hx).2; omega⟩, h.d, h.s3, h.s4, h.all⟩
theorem pw_snoc {l : List Int} {n : Int} (h : l.Pairwise (· < ·)) (hn : ∀ x ∈ l, x < n) : (l ++ [n]).Pairwise (· < ·) :=
  List.pairwise_append.2 ⟨h, List.pairwise_singleton _ _, fun x hx y hy => by rw [List.mem_singleton.1 hy]; exact hn x hx⟩
theorem SysL.read {w1 w2 w3 w4 : List Int} {n : Int} (h : SysL w1 w2 w3 w4 n) (h0 : 0 ≤ n) : SysL (w1 ++ [n]) w2 (w3 ++ [n]) w4 (n + 1) := by
  refine ⟨pw_snoc h.o1 fun x hx => (h.r1 x hx).2, h.o2, pw_snoc h.o3 fun x hx => (h.r1 x (h.s3 x hx)).2, h.o4, ?_, fun x hx => ⟨(h.r2 x hx).1, by have := (h.r2 x hx).2; omega⟩, ?_, ?_, ?_, ?_⟩
  · intro x hx
    rcases List.mem_append.1 hx with hx | hx
    · have := h.r1 x hx; omega
    · rw [List.mem_singleton.1 hx]; omega
  · intro x hx hx2
    rcases List.mem_append.1 hx with hx | hx
    · exact h.d x hx hx2
    · have := h.r2 x hx2; rw [List.mem_singleton.1 hx] at this; omega
  · intro x hx
    rcases List.mem_append.1 hx with hx | hx
    · simp [h.s3 x hx]
    · simp [List.mem_singleton.1 hx]
  · intro x hx; simp [h.s4 x hx]
  · intro x hx
    rcases List.mem_append.1 hx with hx | hx
    · rcases h.all x hx with h | h <;> simp [h]
    · simp [List.mem_singleton.1 hx]
theorem SysL.write {w1 w2 w3 w4 : List Int} {n : Int} (h : SysL w1 w2 w3 w4 n) (h0 : 0 ≤ n) : SysL (w1 ++ [n]) w2 w3 (w4 ++ [n]) (n + 1) := by
  refine ⟨pw_snoc h.o1 fun x hx => (h.r1 x hx).2, h.o2, h.o3, pw_snoc h.o4 fun x hx => (h.r1 x (h.s4 x hx)).2, ?_, fun x hx => ⟨(h.r2 x hx).1, by have := (h.r2 x hx).2; omega⟩, ?_, ?_, ?_, ?_⟩
  · intro x hx
    rcases List.mem_append.1 hx with hx | hx
    · have := h.r1 x hx; omega
    · rw [List.mem_singleton.1 hx]; omega
  · intro x hx hx2
    rcases List.mem_append.1 hx with hx | hx
    · exact h.d x hx hx2
    · have := h.r2 x hx2; rw [List.mem_singleton.1 hx] at this; omega
  · intro x hx; simp [h.s3 x hx]
  · intro x hx
    rcases List.mem_append.1 hx with hx | hx
    · simp [h.s4 x hx]
    · simp [List.mem_singleton.1 hx]
  · intro x hx
    rcases List.mem_append.1 hx with hx | hx
    · rcases h.all x hx with h | h <;> simp [h]
    · simp [List.mem_singleton.1 hx]
theorem SysL.without {w1 w2 w3 w4 : List Int} {n : Int} (h : SysL w1 w2 w3 w4 n) (h0 : 0 ≤ n) : SysL w1 (w2 ++ [n]) w3 w4 (n + 1) := by
  refine ⟨h.o1, pw_snoc h.o2 fun x hx => (h.r2 x hx).2, h.o3, h.o4, fun x hx => ⟨(h.r1 x hx).1, by have := (h.r1 x hx).2; omega⟩, ?_, ?_, h.s3, h.s4, h.all⟩
  · intro x hx
    rcases List.mem_append.1 hx with hx | hx
    · have := h.r2 x hx; omega
    · rw [List.mem_singleton.1 hx]; omega
  · intro x hx hx2
    rcases List.mem_append.1 hx2 with hx2 | hx2
    · exact h.d x hx hx2
    · have := h.r1 x hx; rw [List.mem_singleton.1 hx2] at this; omega
theorem SysL.zero {w2 w3 w4 : List Int} {n : Int} (h : SysL [] w2 w3 w4 n) (h0 : 1 ≤ n) : SysL [0] (w2.filter fun x => !decide (x = 0)) w3 [0] n := by
  refine ⟨List.pairwise_singleton _ _, h.o2.sublist List.filter_sublist, h.o3, List.pairwise_singleton _ _, by simp; omega, fun x hx => h.r2 x (List.mem_filter.1 hx).1, by simp, ?_, by simp, by simp⟩
  intro x hx
  exact absurd (h.s3 x hx) (by simp)
end Go.Proofs.Ytcfleoaldoebhaa

namespace Go.Proofs.Ytcfleoaldoebhaa
set_option linter.unusedVariables false
def argA (a : Arg) : AV := .agg [bA a.has, iA a.n, iA a.ref.kind, iA a.ref.field]
def opA (o : Op) : AV := .agg [iA o.act, iA o.to.kind, iA o.to.field, bA o.a.has, iA o.a.n, iA o.a.ref.kind, iA o.a.ref.field, bA o.b.has, iA o.b.n, iA o.b.ref.kind, iA o.b.ref.field]
abbrev opsA (o : Bool) (l : List Op) : AV := .lst o 131 11 (l.map opA)
def sysA (o : Bool) (s : Sys) : AV := .agg [sA s.name, intsA o s.wth, intsA o s.wout, intsA o s.reads, intsA o s.writes, opsA o s.ops, compsA o false s.spawn]
abbrev syssA (o : Bool) (l : List Sys) : AV := .lst o 72 7 (l.map (sysA false))
instance {a : Arg} : Frz (argA a) (argA a) := ⟨rfl⟩
instance {o : Op} : Frz (opA o) (opA o) := ⟨rfl⟩
instance {o : Bool} {s : Sys} : Frz (sysA o s) (sysA false s) := ⟨by unfold sysA; exact Frz.h⟩
end Go.Proofs.Ytcfleoaldoebhaa

namespace Go.Proofs.Ytcfleoaldoebhaa
set_option linter.unusedVariables false
theorem isNaN_ps (a : Int) : PS Try.prog 74 [iA a] (bA false) := by
  refine Spec.of (nt := 6) (res := [.tmp 2]) Try.func74 rfl (by kernel_rfl) rfl rfl rfl fun Sf => ?_
  (repeat (first | refine WK ?_ | refine All.i fun X => ?_ | refine AllY.i fun Y => ?_))
  (refine AWP.ret ?_; (repeat (first | refine inB_r ?_ | refine andThen_r ?_)); refine retQ_r ?_); refine Ends.ps ?_
  have : decide (a ≠ a) = false := decide_eq_false (by simp)
  rw [this]
def cmpI (a b : Int) : Int := if a < b then -1 else if b < a then 1 else 0
theorem compare_ps (a b : Int) : PS Try.prog 57 [iA a, iA b] (iA (cmpI a b)) := by
  refine Spec.of (nt := 20) (res := [.tmp 4]) Try.func57 rfl (by kernel_rfl) rfl rfl rfl fun Sf => ?_
  (repeat (first | (refine AOps.gN ?_; first | (refine AOps.g_callf ?_; first | refine AOps.c1 (h := (isNaN_ps a)) (k := ?_) | refine AOps.c1 (h := (isNaN_ps b)) (k := ?_))) | refine WK ?_ | refine All.i fun X => ?_ | refine AllY.i fun Y => ?_))
  refine AWP.cond_f rfl rfl ?_
  (repeat (first | refine WK ?_ | refine All.i fun X => ?_ | refine AllY.i fun Y => ?_))
  refine AWP.cond_f rfl rfl ?_
  (repeat (first | refine WK ?_ | refine All.i fun X => ?_ | refine AllY.i fun Y => ?_))
  refine AWP.cond rfl (fun h => ?_) (fun h => ?_)
  · have h : a < b := by simpa using h
    (repeat (first | refine WK ?_ | refine All.i fun X => ?_ | refine AllY.i fun Y => ?_))
    (refine AWP.ret ?_; (repeat (first | refine inB_r ?_ | refine andThen_r ?_)); refine retQ_r ?_); refine Ends.ps ?_
    rw [cmpI, if_pos h]
  · have h : ¬ a < b := by simpa using h
    (repeat (first | refine WK ?_ | refine All.i fun X => ?_ | refine AllY.i fun Y => ?_))
    refine AWP.cond rfl (fun h2 => ?_) (fun h2 => ?_)
    · have h2 : b < a := by simpa using h2
      (repeat (first | refine WK ?_ | refine All.i fun X => ?_ | refine AllY.i fun Y => ?_))
      (refine AWP.ret ?_; (repeat (first | refine inB_r ?_ | refine andThen_r ?_)); refine retQ_r ?_); refine Ends.ps ?_
      rw [cmpI, if_neg h, if_pos h2]
    · have h2 : ¬ b < a := by simpa using h2
      (repeat (first | refine WK ?_ | refine All.i fun X => ?_ | refine AllY.i fun Y => ?_))
      (refine AWP.ret ?_; (repeat (first | refine inB_r ?_ | refine andThen_r ?_)); refine retQ_r ?_); refine Ends.ps ?_
      rw [cmpI, if_neg h, if_neg h2]
abbrev cntA (x : Int × Int) : AV := .agg [iA x.1, iA x.2]
abbrev cntsA (o : Bool) (l : List (Int × Int)) : AV := .lst o 83 2 (l.map cntA)
theorem counts1_ps (x : Int × Int) (b : Int) : PS Try.prog 56 [cntA x, iA b] (iA (cmpI x.1 b)) := by
  refine Spec.of (nt := 9) (res := [.tmp 4]) Try.func56 rfl (by kernel_rfl) rfl rfl rfl fun Sf => ?_
  (repeat (first | (refine AOps.gN ?_; first | (refine AOps.g_callf ?_; first | refine AOps.c2 (h := (compare_ps x.1 b)) (k := ?_)) | (refine AOps.g_box ?_; refine AOps.goB ?_)) | refine WK ?_ | refine All.i fun X => ?_ | refine AllY.i fun Y => ?_))
  (refine AWP.ret ?_; (repeat (first | refine inB_r ?_ | refine andThen_r ?_)); refine retQ_r ?_); refine Ends.ps ?_
  rfl
/-- The first that is not zero. -/
def orI : List Int → Int
  | [] => 0
  | x :: l => if x = 0 then orI l else x
theorem orI_drop (l : List Int) (i : Nat) (h : i < l.length) : orI (l.drop i) = if l[i] = 0 then orI (l.drop (i + 1)) else l[i] := by
  rw [List.drop_eq_getElem_cons h, orI]
theorem or_ps (l : List Int) (hl : l.length ≤ 1099511627776) : PS Try.prog 78 [intsA false l] (iA (orI l)) := by
  refine Spec.of (nt := 18) (res := [.tmp 2]) Try.func78 rfl (by kernel_rfl) rfl rfl rfl fun Sf => ?_
  (repeat (first | refine WK ?_ | refine All.i fun X => ?_ | refine AllY.i fun Y => ?_))
  refine AWP.lp (fun i : Nat => ⟨[(0, intsA false l), (3, iA 0), (6, intsA false l), (7, iA (l.map iA).length), (8, iA i)], Sf⟩) (fun i => i ≤ l.length ∧ orI (l.drop i) = orI l) (fun i => l.length - i) 0 ⟨Nat.zero_le _, rfl⟩ ?_
  rintro i ⟨hi, ho⟩
  (repeat (first | refine WK ?_ | refine All.i fun X => ?_ | refine AllY.i fun Y => ?_))
  refine AWP.cond rfl (fun hc => ?_) (fun hc => ?_)
  · have h : i < l.length := by rw [decide_eq_true_eq, List.length_map] at hc; omega
    obtain ⟨y, hy⟩ : ∃ y, l[i] = y := ⟨_, rfl⟩
    have hat : (l.map iA)[i]? = some (iA y) := by rw [List.getElem?_map, List.getElem?_eq_getElem h, hy]; rfl
    have hd := orI_drop l i h
    rw [hy] at hd
    (repeat (first | refine WK ?_ | refine All.i fun X => ?_ | refine AllY.i fun Y => ?_))
    refine AWP.cond rfl (fun he => ?_) (fun he => ?_)
    · have he : y ≠ 0 := by simpa using he
      (repeat (first | refine WK ?_ | refine All.i fun X => ?_ | refine AllY.i fun Y => ?_))
      (refine AWP.ret ?_; (repeat (first | refine inB_r ?_ | refine andThen_r ?_)); refine retQ_r ?_); refine Ends.ps ?_
      rw [← ho, hd, if_neg he]
    · have he : y = 0 := by simpa using he
      (repeat (first | refine WK ?_ | refine All.i fun X => ?_ | refine AllY.i fun Y => ?_))
      exact lp_next (i + 1) ⟨h, by rw [← ho, hd, if_pos he]⟩
  · have h : i = l.length := by rw [decide_eq_false_iff_not, List.length_map] at hc; omega
    (repeat (first | refine WK ?_ | refine All.i fun X => ?_ | refine AllY.i fun Y => ?_))
    (refine AWP.ret ?_; (repeat (first | refine inB_r ?_ | refine andThen_r ?_)); refine retQ_r ?_); refine Ends.ps ?_
    rw [← ho, h, List.drop_length]; rfl
def ordE (a b : Evt) : Int := orI [cmpI a.sys b.sys, cmpI a.ent.n b.ent.n, cmpI a.ent.gen b.ent.gen]
theorem order_ps (a b : Evt) : PS Try.prog 62 [evtA a, evtA b] (iA (ordE a b)) := by
  refine Spec.of (nt := 26) (res := [.tmp 4]) Try.func62 rfl (by kernel_rfl) rfl rfl rfl fun Sf => ?_
  have h := or_ps [cmpI a.sys b.sys, cmpI a.ent.n b.ent.n, cmpI a.ent.gen b.ent.gen] (by simp)
  (repeat (first | (refine AOps.gN ?_; first | (refine AOps.g_box ?_; refine AOps.goB ?_)) | refine WK ?_ | refine All.i fun X => ?_ | refine AllY.i fun Y => ?_))
  (repeat refine WF ?_); refine AWP.region_run (by kernel_rfl) (by kernel_rfl) ?_; (repeat (first | (refine RGo.gN ?_; first | (refine RGo.g_callf ?_; first | refine RGo.c2 (h := (compare_ps a.sys b.sys)) (k := ?_) | refine RGo.c2 (h := (compare_ps a.ent.n b.ent.n)) (k := ?_) | refine RGo.c2 (h := (compare_ps a.ent.gen b.ent.gen)) (k := ?_) | refine RGo.c1 (h := (h ..)) (k := ?_))) | (refine RGo.gQ ?_; first | (refine RGo.g_callf ?_; first | refine RGo.c2 (h := (compare_ps a.sys b.sys)) (k := ?_) | refine RGo.c2 (h := (compare_ps a.ent.n b.ent.n)) (k := ?_) | refine RGo.c2 (h := (compare_ps a.ent.gen b.ent.gen)) (k := ?_) | refine RGo.c1 (h := (h ..)) (k := ?_))) | refine RK ?_ | refine RGo.nil (by kernel_rfl) ?_))
  (repeat (first | refine WK ?_ | refine All.i fun X => ?_ | refine AllY.i fun Y => ?_))
  (refine AWP.ret ?_; (repeat (first | refine inB_r ?_ | refine andThen_r ?_)); refine retQ_r ?_); refine Ends.ps ?_
  rfl
end Go.Proofs.Ytcfleoaldoebhaa

namespace Go.Proofs.Ytcfleoaldoebhaa
set_option linter.unusedVariables false
def idxF {α : Type} (l : List α) (p : α → Bool) : Int := match l.findIdx? p with
  | some i => i
  | none => -1
theorem idxF_none {α : Type} {l : List α} {p : α → Bool} (h : ∀ j (hj : j < l.length), p l[j] = false) : idxF l p = -1 := by
  have : l.findIdx? p = none := by
    rw [List.findIdx?_eq_none_iff]
    intro x hx
    obtain ⟨j, hj, rfl⟩ := List.getElem_of_mem hx
    exact h j hj
  simp [idxF, this]
theorem idxF_some {α : Type} {l : List α} {p : α → Bool} {i : Nat} (hi : i < l.length) (e : p l[i] = true) (h : ∀ j (hj : j < i), p (l[j]'(by omega)) = false) : idxF l p = i := by
  have : l.findIdx? p = some i := by
    rw [List.findIdx?_eq_some_iff_getElem]
    exact ⟨hi, e, fun j hj => by simpa using h j hj⟩
  simp [idxF, this]
theorem idxF_any {α : Type} (l : List α) (p : α → Bool) : decide ((0 : Int) ≤ idxF l p) = l.any p := by
  unfold idxF
  cases h : l.findIdx? p with
  | none =>
    rw [List.findIdx?_eq_none_iff] at h
    have : l.any p = false := List.any_eq_false.2 fun x hx => by rw [h x hx]; simp
    rw [this]
    rfl
  | some i =>
    obtain ⟨hi, e, _⟩ := List.findIdx?_eq_some_iff_getElem.1 h
    have : l.any p = true := List.any_eq_true.2 ⟨_, List.getElem_mem hi, e⟩
    rw [this]
    simp
theorem idxF_range {α : Type} (l : List α) (p : α → Bool) : -1 ≤ idxF l p ∧ idxF l p < l.length ∧ idxF l p ≤ l.length := by
  unfold idxF
  cases h : l.findIdx? p with
  | none => simp; omega
  | some i =>
    obtain ⟨hi, _⟩ := List.findIdx?_eq_some_iff_getElem.1 h
    simp; omega
end Go.Proofs.Ytcfleoaldoebhaa

namespace Go.Proofs.Ytcfleoaldoebhaa
set_option linter.unusedVariables false
theorem indexFuncT_ps (l : List Item) (f : FuncId) (cap : List AV) (p : Item → Bool) (hs : st1s cap = true) (hl : l.length ≤ 4611686018427387904) (hf : ∀ x ∈ l, PS Try.prog f ((itemA false) x :: cap) (bA (p x))) : PS Try.prog 77 [.lst false 98 3 (l.map (itemA false)), .fn f cap] (iA (idxF l p)) := by
  refine Spec.of (nt := 19) (res := [.tmp 4]) Try.func77 rfl (by kernel_rfl) rfl rfl rfl fun Sf => ?_
  (repeat (first | refine WK ?_ | refine All.i fun X => ?_ | refine AllY.i fun Y => ?_))
  refine AWP.lp (fun i : Nat => ⟨[(0, .lst false 98 3 (l.map (itemA false))), (1, .fn f cap), (7, iA (l.map (itemA false)).length), (8, iA i)], Sf⟩) (fun i => i ≤ l.length ∧ ∀ j (h : j < l.length), j < i → p l[j] = false) (fun i => l.length - i) 0 ⟨Nat.zero_le _, fun j h hj => absurd hj (by omega)⟩ ?_
  rintro i ⟨hi, he⟩
  (repeat (first | refine WK ?_ | refine All.i fun X => ?_ | refine AllY.i fun Y => ?_))
  refine AWP.cond rfl (fun hc => ?_) (fun hc => ?_)
  · have h : i < l.length := by simpa using hc
    (repeat (first | (refine AOps.gN ?_; first | (refine AOps.g_callv ?_; first | refine AOps.k1 (h := (hf _ (List.getElem_mem h))) (k := ?_))) | refine WK ?_ | refine All.i fun X => ?_ | refine AllY.i fun Y => ?_))
    refine AWP.cond rfl (fun hd => ?_) (fun hd => ?_)
    · (repeat (first | refine WK ?_ | refine All.i fun X => ?_ | refine AllY.i fun Y => ?_))
      (refine AWP.ret ?_; (repeat (first | refine inB_r ?_ | refine andThen_r ?_)); refine retQ_r ?_); refine Ends.ps ?_
      rw [idxF_some h hd fun j hj => he j (by omega) hj]
    · (repeat (first | refine WK ?_ | refine All.i fun X => ?_ | refine AllY.i fun Y => ?_))
      refine lp_next (i + 1) ⟨h, fun j h1 h2 => ?_⟩
      by_cases e : j = i
      · subst e; exact hd
      · exact he j h1 (by omega)
  · have h : ¬ i < l.length := by simpa using hc
    (repeat (first | refine WK ?_ | refine All.i fun X => ?_ | refine AllY.i fun Y => ?_))
    (refine AWP.ret ?_; (repeat (first | refine inB_r ?_ | refine andThen_r ?_)); refine retQ_r ?_); refine Ends.ps ?_
    rw [idxF_none fun j hj => he j hj (by omega)]
theorem containsFuncT_ps (l : List Item) (f : FuncId) (cap : List AV) (p : Item → Bool) (hs : st1s cap = true) (hl : l.length ≤ 4611686018427387904) (hf : ∀ x ∈ l, PS Try.prog f ((itemA false) x :: cap) (bA (p x))) : PS Try.prog 59 [.lst false 98 3 (l.map (itemA false)), .fn f cap] (bA (l.any p)) := by
  refine Spec.of (nt := 9) (res := [.tmp 4]) Try.func59 rfl (by kernel_rfl) rfl rfl rfl fun Sf => ?_
  (repeat (first | (refine AOps.gN ?_; first | (refine AOps.g_callf ?_; first | refine AOps.c2 (h := (indexFuncT_ps l f cap p hs hl hf)) (k := ?_))) | refine WK ?_ | refine All.i fun X => ?_ | refine AllY.i fun Y => ?_))
  (refine AWP.ret ?_; (repeat (first | refine inB_r ?_ | refine andThen_r ?_)); refine retQ_r ?_); refine Ends.ps ?_
  rw [← idxF_any]
end Go.Proofs.Ytcfleoaldoebhaa

namespace Go.Proofs.Ytcfleoaldoebhaa
set_option linter.unusedVariables false
set_option linter.unusedSimpArgs false
/-- A struct of two whole numbers. -/
def two2 (P : Program) (t : TypeId) : Bool := match (P.fieldsOf t).toList with
  | [f1, f2] => f1.name != "_" && f2.name != "_" && f1.offset == 0 && f2.offset == 1 && (match P.underlying f1.type, P.underlying f2.type with | some (.int _), some (.int _) => true | _, _ => false)
  | _ => false
theorem run_part_int {P : Program} {t : TypeId} {k : IntKind} {xs : Array Value} {off : Nat} {v : Value} (ht : P.underlying t = some (.int k)) (hx : xs[off]? = some v) (w : World) : (part t xs off).run P w = .ok v w := by
  simp [part, isAgg, run_underlying ht, hx, Sem.run_bind, Sem.run_pure, Result.andThen_ok]
theorem eql_two {P : Program} {t : TypeId} (h1 : P.underlying t = some (.struct (P.fieldsOf t))) (h2 : P.stoodInHeld t = false) (h : two2 P t = true) (a b c d : Int) (w : World) : (binOp .eql t (.agg #[.int .i64 a, .int .i64 b]) (.agg #[.int .i64 c, .int .i64 d])).run P w = .ok (.bool (decide (a = c) && decide (b = d))) w := by
  rw [run_eql_struct, show (10000 : Nat) = 9999 + 1 from rfl, run_equalIn_agg w 9999 t _ _ h1 h2]
  unfold two2 at h
  split at h
  · rename_i f1 f2 hf
    simp only [Bool.and_eq_true, bne_iff_ne, ne_eq, beq_iff_eq] at h
    obtain ⟨⟨⟨⟨n1, n2⟩, o1⟩, o2⟩, hu⟩ := h
    split at hu
    · rename_i k1 k2 u1 u2
      have p1 : ∀ x y : Int, (part f1.type #[.int .i64 x, .int .i64 y] f1.offset).run P w = .ok (.int .i64 x) w := fun x y => run_part_int u1 (by rw [o1]; rfl) w
      have p2 : ∀ x y : Int, (part f2.type #[.int .i64 x, .int .i64 y] f2.offset).run P w = .ok (.int .i64 y) w := fun x y => run_part_int u2 (by rw [o2]; rfl) w
      have q1 : ∀ a c : Int, (Op.equalIn 9999 f1.type (.int .i64 a) (.int .i64 c)).run P w = .ok (a == c) w := fun a c => run_equalIn_int (P := P) w 9998 f1.type .i64 k1 a c u1
      have q2 : ∀ a c : Int, (Op.equalIn 9999 f2.type (.int .i64 a) (.int .i64 c)).run P w = .ok (a == c) w := fun a c => run_equalIn_int (P := P) w 9998 f2.type .i64 k2 a c u2
      rw [hf]
      by_cases e1 : a = c
      · by_cases e2 : b = d
        · simp [Op.eqFields, n1, n2, Sem.run_bind, p1, p2, q1, q2, e1, e2, Sem.run_pure, Sem.run_ite, Result.andThen_ok]
        · simp [Op.eqFields, n1, n2, Sem.run_bind, p1, p2, q1, q2, e1, e2, Sem.run_pure, Sem.run_ite, Result.andThen_ok]
      · simp [Op.eqFields, n1, Sem.run_bind, p1, q1, e1, Sem.run_pure, Sem.run_ite, Result.andThen_ok]
    · cases hu
  · cases h
theorem entEql (a b c d : Int) (w : World) : (binOp .eql 28 (.agg #[.int .i64 a, .int .i64 b]) (.agg #[.int .i64 c, .int .i64 d])).run Try.prog w = .ok (.bool (decide (a = c) && decide (b = d))) w :=
  eql_two (by kernel_rfl) (by kernel_rfl) (by kernel_rfl) a b c d w
def sameE (a b : Ent) : Bool := decide (a.n = b.n) && decide (a.gen = b.gen)
theorem split1_ps (it : Item) (e : Evt) : PS Try.prog 60 [itemA false it, .fp (evtA e).cells] (bA (sameE it.ent e.ent)) := by
  refine Spec.of (nt := 9) (res := [.tmp 3]) Try.func60 rfl (by kernel_rfl) rfl rfl rfl fun Sf => ?_
  (repeat (first | (refine AOps.gN ?_; first | (refine AOps.g_box ?_; refine AOps.goB ?_) | refine AOps.p (W.eql2 (by kernel_rfl) (entEql it.ent.n it.ent.gen e.ent.n e.ent.gen) rfl rfl) rfl ?_) | refine WK ?_ | refine All.i fun X => ?_ | refine AllY.i fun Y => ?_))
  (refine AWP.ret ?_; (repeat (first | refine inB_r ?_ | refine andThen_r ?_)); refine retQ_r ?_); refine Ends.ps ?_
  rfl
abbrev evtsA (o : Bool) (l : List Evt) : AV := .lst o 30 4 (l.map evtA)
theorem filter_take {α : Type} (f : α → Bool) (l : List α) {i : Nat} (h : i < l.length) : (l.take (i + 1)).filter f = if f l[i] then (l.take i).filter f ++ [l[i]] else (l.take i).filter f := by
  rw [List.take_succ_eq_append_getElem h, List.filter_append]
  split <;> rename_i hf <;> simp [hf]
def inW (w : Wd) (e : Evt) : Bool := w.items.any fun it => sameE it.ent e.ent
theorem split_ps (w : Wd) (l : List Evt) (hw : w.items.length ≤ 4611686018427387904) (hl : l.length * 32 ≤ 140737488351232) : PS Try.prog 39 [wdA false w, evtsA false l] (.tup [evtsA true (l.filter (inW w)), evtsA true (l.filter fun e => !inW w e)]) := by
  refine Spec.of (nt := 31) (res := [.tmp 4, .tmp 5]) Try.func39 rfl (by kernel_rfl) rfl rfl rfl fun Sf => ?_
  have hlm : (l.map evtA).length = l.length := List.length_map _
  (repeat refine WF ?_); refine AWP.region ?_; (repeat (first | (refine AOps.gN ?_; first | (refine AOps.g_box ?_; refine AOps.goB ?_)) | refine WO ?_ | refine All.i fun X => ?_ | refine AllY.i fun Y => ?_)); refine AOps.nil ?_; (repeat refine WN ?_)
  (repeat refine WF ?_); refine AWP.region ?_; (repeat (first | refine WO ?_ | refine All.i fun X => ?_ | refine AllY.i fun Y => ?_)); refine AOps.nil ?_; (repeat refine WN ?_)
  refine AWP.adopt (d := 6) 30 4 rfl fun A => ?_
  refine AWP.adopt (d := 7) 30 4 rfl fun D => ?_
  (repeat (first | refine WK ?_ | refine All.i fun X => ?_ | refine AllY.i fun Y => ?_))
  refine AWP.lp7 (fun (i A D : Nat) (L M : List AV) (a b : Nat) => ⟨[(2, .fp (wdA false w).cells), (6, .sl A 0 a), (7, .sl D 0 b), (10, evtsA false l), (11, iA (l.map evtA).length), (12, iA i)], (D, .row 30 4 M) :: (A, .row 30 4 L) :: Sf⟩) (fun i _ _ L M a b => i ≤ l.length ∧ a = L.length ∧ b = M.length ∧ a ≤ i ∧ b ≤ i ∧ L = ((l.take i).filter (inW w)).map evtA ∧ M = ((l.take i).filter fun e => !inW w e).map evtA) (fun i _ _ _ _ _ _ => l.length - i) 0 A D [] [] 0 0 ⟨Nat.zero_le _, rfl, rfl, Nat.le_refl _, Nat.le_refl _, rfl, rfl⟩ ?_
  rintro i A D L M a b ⟨hi, ha, hb, hai, hbi, hL, hM⟩
  (repeat (first | refine WK ?_ | refine All.i fun X => ?_ | refine AllY.i fun Y => ?_))
  refine AWP.cond rfl (fun hc => ?_) (fun hc => ?_)
  · have h : i < l.length := by rw [decide_eq_true_eq, hlm] at hc; omega
    obtain ⟨e, he⟩ : ∃ e, l[i] = e := ⟨_, rfl⟩
    have hat : (l.map evtA)[i]? = some (evtA e) := by rw [List.getElem?_map, List.getElem?_eq_getElem h, he]; rfl
    have hcf := containsFuncT_ps w.items 60 [.fp (evtA e).cells] (fun it => sameE it.ent e.ent) rfl hw (fun it _ => split1_ps it e)
    have hn1 := filter_take (inW w) l h
    have hn2 := filter_take (fun e => !inW w e) l h
    rw [he] at hn1 hn2
    have ha1 : (a + [evtA e].length) * 32 ≤ 140737488355328 := by show (a + 1) * 32 ≤ _; omega
    have hb1 : (b + [evtA e].length) * 32 ≤ 140737488355328 := by show (b + 1) * 32 ≤ _; omega
    (repeat refine WF ?_); refine AWP.region ?_; (repeat (first | refine WO ?_ | refine All.i fun V => ?_ | refine AllY.i fun Y => ?_)); refine AOps.nil ?_; (repeat refine WN ?_)
    refine AWP.iceP [9] .here (b := evtA e) (hf := ⟨rfl⟩) ?_ (by intro d hd; simp only [List.mem_singleton] at hd; subst hd; rfl)
    cases hin : inW w e
    · have hin2 := hin
      rw [inW] at hin
      rw [hin] at hcf
      rw [hin2] at hn1 hn2
      (repeat refine WF ?_); refine AWP.region ?_; (repeat (first | (refine AOps.gN ?_; first | (refine AOps.g_callf ?_; first | refine AOps.c2 (h := (hcf ..)) (k := ?_))) | refine WO ?_ | refine All.i fun X => ?_ | refine AllY.i fun Y => ?_)); refine AOps.nil ?_; (repeat refine WN ?_)
      refine AWP.cond_f rfl rfl ?_
      (repeat (first | (refine AOps.gN ?_; first | (refine AOps.g_lit ?_; refine AOps.goL (evtA e) ?_)) | refine WK ?_ | refine All.i fun X => ?_ | refine AllY.i fun Y => ?_))
      refine lp_next7 (i + 1) A Y L (M ++ [evtA e]) a (b + [evtA e].length) ⟨h, ha, by rw [List.length_append, hb], by omega, by show b + 1 ≤ _; omega, by rw [hn1]; exact hL, by rw [hn2, hM, if_pos (by rfl), List.map_append]; rfl⟩
    · have hin2 := hin
      rw [inW] at hin
      rw [hin] at hcf
      rw [hin2] at hn1 hn2
      (repeat refine WF ?_); refine AWP.region ?_; (repeat (first | (refine AOps.gN ?_; first | (refine AOps.g_callf ?_; first | refine AOps.c2 (h := (hcf ..)) (k := ?_))) | refine WO ?_ | refine All.i fun X => ?_ | refine AllY.i fun Y => ?_)); refine AOps.nil ?_; (repeat refine WN ?_)
      refine AWP.cond_t rfl rfl ?_
      (repeat (first | (refine AOps.gN ?_; first | (refine AOps.g_lit ?_; refine AOps.goL (evtA e) ?_)) | refine WK ?_ | refine All.i fun X => ?_ | refine AllY.i fun Y => ?_))
      refine lp_next7 (i + 1) Y D (L ++ [evtA e]) M (a + [evtA e].length) b ⟨h, by rw [List.length_append, ha], hb, by show a + 1 ≤ _; omega, by omega, by rw [hn1, hL, if_pos (by rfl), List.map_append]; rfl, by rw [hn2]; exact hM⟩
  · have h : i = l.length := by rw [decide_eq_false_iff_not, hlm] at hc; omega
    subst h
    rw [List.take_length] at hL hM
    (repeat (first | refine WK ?_ | refine All.i fun X => ?_ | refine AllY.i fun Y => ?_))
    (refine AWP.ret ?_; (repeat (first | refine inB_r ?_ | refine andThen_r ?_)); refine retQ_r ?_)
    subst hL hM
    exact ⟨[.sl A 0 a, .sl D 0 b], [evtsA true (l.filter (inW w)), evtsA true (l.filter fun e => !inW w e)], _, [], .cons (.tmp rfl) rfl (.cons (.tmp rfl) rfl .nil), .cons (.cell (.sl (p := 1) (.next .here) ha)) (.cons (.cell (.sl (p := 0) .here hb)) .nil), by exact Sub.f, rfl, rfl⟩
end Go.Proofs.Ytcfleoaldoebhaa

namespace Go.Proofs.Ytcfleoaldoebhaa
set_option linter.unusedVariables false
def isOf (k lo hi : Int) (e : Evt) : Bool := (decide (k = -1) || decide (e.sys = k)) && decide (lo ≤ e.val) && decide (e.val ≤ hi)
theorem of_ps (l : List Evt) (k lo hi : Int) (hl : l.length * 32 ≤ 140737488351232) : PS Try.prog 38 [evtsA false l, iA k, .agg [iA lo, iA hi]] (evtsA true (l.filter (isOf k lo hi))) := by
  refine Spec.of (nt := 44) (res := [.tmp 6]) Try.func38 rfl (by kernel_rfl) rfl rfl rfl fun Sf => ?_
  have hlm : (l.map evtA).length = l.length := List.length_map _
  (repeat refine WF ?_); refine AWP.region ?_; (repeat (first | (refine AOps.gN ?_; first | (refine AOps.g_box ?_; refine AOps.goB ?_)) | refine WO ?_ | refine All.i fun X => ?_ | refine AllY.i fun Y => ?_)); refine AOps.nil ?_; (repeat refine WN ?_)
  (repeat refine WF ?_); refine AWP.region ?_; (repeat (first | refine WO ?_ | refine All.i fun X => ?_ | refine AllY.i fun Y => ?_)); refine AOps.nil ?_; (repeat refine WN ?_)
  refine AWP.adopt (d := 7) 30 4 rfl fun A => ?_
  (repeat (first | refine WK ?_ | refine All.i fun X => ?_ | refine AllY.i fun Y => ?_))
  refine AWP.lp4 (fun (i A a : Nat) (L : List AV) => ⟨[(1, iA k), (5, .fp [iA lo, iA hi]), (7, .sl A 0 a), (10, evtsA false l), (11, iA (l.map evtA).length), (12, iA i)], (A, .row 30 4 L) :: Sf⟩) (fun i _ a L => i ≤ l.length ∧ a = L.length ∧ a ≤ i ∧ L = ((l.take i).filter (isOf k lo hi)).map evtA) (fun i _ _ _ => l.length - i) 0 A 0 [] ⟨Nat.zero_le _, rfl, Nat.le_refl _, rfl⟩ ?_
  rintro i A a L ⟨hi', ha, hai, hL⟩
  (repeat (first | refine WK ?_ | refine All.i fun X => ?_ | refine AllY.i fun Y => ?_))
  refine AWP.cond rfl (fun hc => ?_) (fun hc => ?_)
  · have h : i < l.length := by rw [decide_eq_true_eq, hlm] at hc; omega
    obtain ⟨e, he⟩ : ∃ e, l[i] = e := ⟨_, rfl⟩
    have hat : (l.map evtA)[i]? = some (evtA e) := by rw [List.getElem?_map, List.getElem?_eq_getElem h, he]; rfl
    have hn1 := filter_take (isOf k lo hi) l h
    rw [he] at hn1
    have ha1 : (a + [evtA e].length) * 32 ≤ 140737488355328 := by show (a + 1) * 32 ≤ _; omega
    (repeat refine WF ?_); refine AWP.region ?_; (repeat (first | refine WO ?_ | refine All.i fun V => ?_ | refine AllY.i fun Y => ?_)); refine AOps.nil ?_; (repeat refine WN ?_)
    refine AWP.iceP [9] .here (b := evtA e) (hf := ⟨rfl⟩) ?_ (by intro d hd; simp only [List.mem_singleton] at hd; subst hd; rfl)
    (repeat refine WF ?_); refine AWP.region ?_; (repeat (first | refine WO ?_ | refine All.i fun X => ?_ | refine AllY.i fun Y => ?_)); refine AOps.nil ?_; (repeat refine WN ?_)
    have hio : isOf k lo hi e = ((decide (k = -1) || decide (e.sys = k)) && decide (lo ≤ e.val) && decide (e.val ≤ hi)) := rfl
    refine AWP.cond rfl (fun hg => ?_) (fun hg => ?_)
    · rw [hio.trans hg] at hn1
      (repeat (first | (refine AOps.gN ?_; first | (refine AOps.g_lit ?_; refine AOps.goL (evtA e) ?_)) | refine WK ?_ | refine All.i fun X => ?_ | refine AllY.i fun Y => ?_))
      refine lp_next4 (i + 1) Y (a + [evtA e].length) (L ++ [evtA e]) ⟨h, by rw [List.length_append, ha], by show a + 1 ≤ _; omega, by rw [hn1, hL, if_pos (by rfl), List.map_append]; rfl⟩
    · rw [hio.trans hg] at hn1
      (repeat (first | refine WK ?_ | refine All.i fun X => ?_ | refine AllY.i fun Y => ?_))
      refine lp_next4 (i + 1) A a L ⟨h, ha, by omega, by rw [hn1]; exact hL⟩
  · have h : i = l.length := by rw [decide_eq_false_iff_not, hlm] at hc; omega
    subst h
    rw [List.take_length] at hL
    (repeat (first | refine WK ?_ | refine All.i fun X => ?_ | refine AllY.i fun Y => ?_))
    (refine AWP.ret ?_; (repeat (first | refine inB_r ?_ | refine andThen_r ?_)); refine retQ_r ?_)
    subst hL
    exact ⟨[.sl A 0 a], [evtsA true (l.filter (isOf k lo hi))], _, [], .cons (.tmp rfl) rfl .nil, .cons (.cell (.sl (p := 0) .here ha)) .nil, by exact Sub.f, rfl, rfl⟩
end Go.Proofs.Ytcfleoaldoebhaa

namespace Go.Proofs.Ytcfleoaldoebhaa
set_option linter.unusedVariables false
theorem cmpI_lt (a b : Int) : cmpI a b < 0 ↔ a < b := by
  unfold cmpI
  split
  · simp [*]
  · split <;> omega
theorem cmpI_eq (a b : Int) : cmpI a b = 0 ↔ a = b := by
  unfold cmpI
  split
  · omega
  · split <;> omega
/-- What the counts of some events are. -/
structure CntOK (pre : List Evt) (m : List (Int × Int)) : Prop where
  inc : m.Pairwise fun x y => x.1 < y.1
  cnt : ∀ x ∈ m, x.2 = ((pre.filter fun e => decide (e.sys = x.1)).length : Int)
  mem : ∀ e ∈ pre, ∃ x ∈ m, x.1 = e.sys
  src : ∀ x ∈ m, ∃ e ∈ pre, e.sys = x.1
  sum : (m.map (·.2)).sum = (pre.length : Int)
theorem CntOK.lt {pre : List Evt} {m : List (Int × Int)} (h : CntOK pre m) {a b : Nat} {x y : Int × Int} (hab : a < b) (hx : m[a]? = some x) (hy : m[b]? = some y) : x.1 < y.1 := by
  obtain ⟨h1, rfl⟩ := List.getElem?_eq_some_iff.1 hx
  obtain ⟨h2, rfl⟩ := List.getElem?_eq_some_iff.1 hy
  exact List.pairwise_iff_getElem.1 h.inc a b h1 h2 hab
theorem sum_set (l : List Int) (i : Nat) (x : Int) (h : l[i]? = some x) : (l.set i (x + 1)).sum = l.sum + 1 := by
  induction l generalizing i with
  | nil => simp at h
  | cons y l ih =>
    cases i with
    | zero => simp at h; subst h; simp; omega
    | succ i => simp at h; simp [ih i h]; omega
theorem cnt_app (pre : List Evt) (e : Evt) (k : Int) : (((pre ++ [e]).filter fun e => decide (e.sys = k)).length : Int) = ((pre.filter fun e => decide (e.sys = k)).length : Int) + if e.sys = k then 1 else 0 := by
  rw [List.filter_append, List.length_append]
  by_cases h : e.sys = k <;> simp [h]
theorem CntOK.found {pre : List Evt} {m : List (Int × Int)} (h : CntOK pre m) {i : Nat} {x : Int × Int} {e : Evt} (hx : m[i]? = some x) (he : x.1 = e.sys) : CntOK (pre ++ [e]) (m.set i (x.1, x.2 + 1)) := by
  have hil := (List.getElem?_eq_some_iff.1 hx).1
  have hkeys : (m.set i (x.1, x.2 + 1)).map (·.1) = m.map (·.1) := by
    rw [List.map_set]
    apply List.ext_getElem?
    intro k
    rw [List.getElem?_set]
    split
    · rename_i e1; subst e1; simp [hil]
      have := (List.getElem?_eq_some_iff.1 hx).2
      rw [this]
    · rfl
  have hk : ∀ z ∈ m.set i (x.1, x.2 + 1), ∃ z' ∈ m, z'.1 = z.1 := fun z hz => by
    have : z.1 ∈ (m.set i (x.1, x.2 + 1)).map (·.1) := List.mem_map.2 ⟨z, hz, rfl⟩
    rw [hkeys] at this
    obtain ⟨z', h1, h2⟩ := List.mem_map.1 this
    exact ⟨z', h1, h2⟩
  refine ⟨?_, fun z hz => ?_, fun e' he' => ?_, fun z hz => ?_, ?_⟩
  · have h1 : (m.map (·.1)).Pairwise (· < ·) := List.pairwise_map.2 h.inc
    rw [← hkeys] at h1
    exact List.pairwise_map.1 h1
  · obtain ⟨k, hk2, rfl⟩ := List.getElem_of_mem hz
    rw [List.getElem_set]
    rw [List.length_set] at hk2
    split
    · rw [cnt_app, if_pos he.symm, ← h.cnt x (List.mem_of_getElem? hx)]
    · rename_i hne
      rw [cnt_app, if_neg, ← h.cnt _ (List.getElem_mem hk2)]
      · omega
      · intro hc
        rw [← he] at hc
        rcases Nat.lt_or_ge k i with h3 | h3
        · have := h.lt h3 (List.getElem?_eq_getElem hk2) hx; omega
        · have := h.lt (show i < k by omega) hx (List.getElem?_eq_getElem hk2); omega
  · have : ∃ x ∈ m, x.1 = e'.sys := by
      rcases List.mem_append.1 he' with h1 | h1
      · exact h.mem e' h1
      · rw [List.mem_singleton.1 h1]; exact ⟨x, List.mem_of_getElem? hx, he⟩
    obtain ⟨z, h1, h2⟩ := this
    have : z.1 ∈ (m.set i (x.1, x.2 + 1)).map (·.1) := by rw [hkeys]; exact List.mem_map.2 ⟨z, h1, rfl⟩
    obtain ⟨z', h3, h4⟩ := List.mem_map.1 this
    exact ⟨z', h3, by rw [h4, h2]⟩
  · obtain ⟨z', h1, h2⟩ := hk z hz
    obtain ⟨e', h3, h4⟩ := h.src z' h1
    exact ⟨e', List.mem_append_left _ h3, by rw [h4, h2]⟩
  · rw [List.map_set, sum_set _ _ x.2 (by rw [List.getElem?_map, hx]; rfl), h.sum, List.length_append]; simp
theorem CntOK.new {pre : List Evt} {m : List (Int × Int)} (h : CntOK pre m) {i : Nat} {e : Evt} (h1 : ∀ (k : Nat) x, k < i → m[k]? = some x → x.1 < e.sys) (h2 : ∀ (k : Nat) x, i ≤ k → m[k]? = some x → e.sys < x.1) : CntOK (pre ++ [e]) (m.take i ++ (e.sys, 1) :: m.drop i) := by
  have hin : ∀ z, z ∈ m.take i ++ (e.sys, 1) :: m.drop i ↔ z ∈ m ∨ z = (e.sys, 1) := fun z => by
    have : z ∈ m ↔ z ∈ m.take i ∨ z ∈ m.drop i := by rw [← List.mem_append, List.take_append_drop]
    rw [List.mem_append, List.mem_cons, this]
    constructor
    · rintro (h | h | h) <;> simp [h]
    · rintro ((h | h) | h) <;> simp [h]
  have hne : ∀ z ∈ m, e.sys ≠ z.1 := fun z hz hc => by
    obtain ⟨k, hk, rfl⟩ := List.getElem_of_mem hz
    rcases Nat.lt_or_ge k i with h3 | h3
    · have := h1 k _ h3 (List.getElem?_eq_getElem hk); omega
    · have := h2 k _ h3 (List.getElem?_eq_getElem hk); omega
  have ht : ∀ z ∈ m.take i, z.1 < e.sys := fun z hz => by
    obtain ⟨k, hk, rfl⟩ := List.mem_take_iff_getElem.1 hz
    exact h1 k _ (by omega) (List.getElem?_eq_getElem _)
  have hd : ∀ z ∈ m.drop i, e.sys < z.1 := fun z hz => by
    obtain ⟨k, hk, rfl⟩ := List.getElem_of_mem hz
    rw [List.getElem_drop]
    exact h2 (i + k) _ (by omega) (List.getElem?_eq_getElem _)
  refine ⟨?_, fun z hz => ?_, fun e' he' => ?_, fun z hz => ?_, ?_⟩
  · have h3 := h.inc
    rw [← List.take_append_drop i m] at h3
    obtain ⟨h4, h5, h6⟩ := List.pairwise_append.1 h3
    refine List.pairwise_append.2 ⟨h4, List.pairwise_cons.2 ⟨hd, h5⟩, fun a ha b hb => ?_⟩
    rcases List.mem_cons.1 hb with rfl | hb
    · exact ht a ha
    · exact h6 a ha b hb
  · rcases (hin z).1 hz with hz | rfl
    · rw [cnt_app, if_neg (hne z hz), ← h.cnt z hz]; omega
    · rw [cnt_app, if_pos rfl]
      have : (pre.filter fun e' => decide (e'.sys = e.sys)) = [] := by
        rw [List.filter_eq_nil_iff]
        intro e' he' hc
        obtain ⟨z, hz, h3⟩ := h.mem e' he'
        simp at hc
        exact hne z hz (by omega)
      rw [this]; rfl
  · rcases List.mem_append.1 he' with h3 | h3
    · obtain ⟨z, hz, h4⟩ := h.mem e' h3
      exact ⟨z, (hin z).2 (.inl hz), h4⟩
    · rw [List.mem_singleton.1 h3]; exact ⟨(e.sys, 1), (hin _).2 (.inr rfl), rfl⟩
  · rcases (hin z).1 hz with hz | rfl
    · obtain ⟨e', h3, h4⟩ := h.src z hz
      exact ⟨e', List.mem_append_left _ h3, h4⟩
    · exact ⟨e, by simp, rfl⟩
  · have h3 := h.sum
    rw [← List.take_append_drop i m, List.map_append, List.sum_append] at h3
    rw [List.map_append, List.sum_append, List.map_cons, List.sum_cons, List.length_append]
    simp only [List.length_singleton]
    omega
theorem CntOK.len {pre : List Evt} {m : List (Int × Int)} (h : CntOK pre m) : m.length ≤ pre.length := by
  have : ∀ m : List (Int × Int), (∀ x ∈ m, 1 ≤ x.2) → (m.length : Int) ≤ (m.map (·.2)).sum := by
    intro m
    induction m with
    | nil => intro _; simp
    | cons x m ih =>
      intro hm
      have h1 := hm x (by simp)
      have h2 := ih fun y hy => hm y (by simp [hy])
      simp only [List.length_cons, List.map_cons, List.sum_cons]
      omega
  have h1 := this m fun x hx => by
    rw [h.cnt x hx]
    obtain ⟨e, he, h2⟩ := h.src x hx
    have : e ∈ pre.filter fun e => decide (e.sys = x.1) := List.mem_filter.2 ⟨he, by simpa using h2⟩
    have := List.length_pos_of_mem this
    omega
  rw [h.sum] at h1
  omega
end Go.Proofs.Ytcfleoaldoebhaa

namespace Go.Proofs.Ytcfleoaldoebhaa
set_option linter.unusedVariables false
/-- The smaller ones come first. -/
def MonoL {α : Type} (g : α → Int) (l : List α) : Prop := ∀ (a b : Nat) (x y : α), a ≤ b → l[a]? = some x → l[b]? = some y → g y < 0 → g x < 0
/-- All ahead of i are smaller, none from j on. -/
def Spl {α : Type} (g : α → Int) (l : List α) (i j : Nat) : Prop := (∀ (k : Nat) (x : α), k < i → l[k]? = some x → g x < 0) ∧ ∀ (k : Nat) (x : α), j ≤ k → l[k]? = some x → ¬ g x < 0
/-- What a search gives: a place, and whether it is there. -/
structure Found {α : Type} (g : α → Int) (l : List α) (r : Nat × Bool) : Prop where
  le : r.1 ≤ l.length
  eq : r.2 = true ↔ ∃ x, l[r.1]? = some x ∧ g x = 0
  mono : MonoL g l → Spl g l r.1 r.1
theorem Spl.lo {α : Type} {g : α → Int} {l : List α} {i j m : Nat} {y : α} (hM : MonoL g l) (h : Spl g l i j) (hy : l[m]? = some y) (hg : g y < 0) : Spl g l (m + 1) j :=
  ⟨fun k x hk hx => hM k m x y (by omega) hx hy hg, h.2⟩
theorem Spl.hi {α : Type} {g : α → Int} {l : List α} {i j m : Nat} {y : α} (hM : MonoL g l) (h : Spl g l i j) (hy : l[m]? = some y) (hg : ¬ g y < 0) : Spl g l i m :=
  ⟨h.1, fun k x hk hx hx0 => hg (hM m k y x hk hy hx hx0)⟩
set_option maxHeartbeats 1000000 in
theorem searchC_sp (X n : Nat) (l : List (Int × Int)) (t : AV) (t0 : Int) (f : FuncId) (cap : List AV) (g : Int × Int → Int) (ht : t = iA t0) (hs : st1s cap = true) (hn : n = (l.map cntA).length) (hl : n ≤ 4611686018427387904) (hf : ∀ x ∈ l, PS Try.prog f (cntA x :: t :: cap) (iA (g x))) :
    Spec Try.prog 55 [.sl X 0 n, t, .fn f cap] [(X, .row 83 2 (l.map cntA))] fun r S' => ∃ b, Found g l b ∧ r = .tup [iA b.1, bA b.2] ∧ S' = [(X, .row 83 2 (l.map cntA))] := by
  subst ht
  refine Spec.of (nt := 49) (res := [.tmp 6, .tmp 7]) Try.func55 rfl (by kernel_rfl) rfl rfl rfl fun Sf => ?_
  have hll : n = l.length := by rw [hn, List.length_map]
  (repeat (first | refine WK ?_ | refine All.i fun X => ?_ | refine AllY.i fun Y => ?_))
  refine AWP.lp2 (fun (i j : Nat) => ⟨[(0, .sl X 0 n), (1, iA t0), (2, .fn f cap), (8, iA n), (9, iA i), (10, iA j)], (X, .row 83 2 (l.map cntA)) :: Sf⟩) (fun i j => i ≤ j ∧ j ≤ n ∧ (MonoL g l → Spl g l i j)) (fun i j => j - i) 0 n ⟨Nat.zero_le _, Nat.le_refl _, fun _ => ⟨fun k x h => absurd h (by omega), fun k x h hx => by have := (List.getElem?_eq_some_iff.1 hx).1; omega⟩⟩ ?_
  rintro i j ⟨hij, hjn, hmono⟩
  (repeat (first | refine WK ?_ | refine All.i fun X => ?_ | refine AllY.i fun Y => ?_))
  refine AWP.cond rfl (fun hc => ?_) (fun hc => ?_)
  · have h : i < j := by rw [decide_eq_true_eq] at hc; omega
    have hmid : ((i : Int) + j).fdiv (2 ^ 1) = (((i + j) / 2 : Nat) : Int) := by
      rw [Int.fdiv_eq_ediv_of_nonneg _ (by decide)]; omega
    have hw1 : IntKind.u64.wrap ((i : Int) + j) = i + j := by rw [IntKind.wrap_u64]; omega
    have hw2 : IntKind.i64.wrap (((i : Int) + j).fdiv (2 ^ 1)) = ((i : Int) + j).fdiv (2 ^ 1) := by
      rw [IntKind.wrap_i64, hmid]; omega
    (repeat refine WF ?_); refine AWP.region ?_; (repeat (first | (refine AOps.gN ?_; first | refine AOps.p (W.conv .i64 .u64 (by kernel_rfl) (by kernel_rfl) rfl hw1) rfl ?_ | refine AOps.p (W.shr 1 rfl rfl rfl (by decide)) rfl ?_ | refine AOps.p (W.conv .u64 .i64 (by kernel_rfl) (by kernel_rfl) rfl hw2) rfl ?_) | refine WO ?_ | refine All.i fun X => ?_ | refine AllY.i fun Y => ?_)); refine AOps.nil ?_; (repeat refine WN ?_)
    rw [hmid]
    obtain ⟨m, hm⟩ : ∃ m, (i + j) / 2 = m := ⟨_, rfl⟩
    rw [hm]
    have hml : m < l.length := by omega
    have hmn : m < n := by omega
    obtain ⟨y, hy⟩ : ∃ y, l[m] = y := ⟨_, rfl⟩
    have hya : l[m]? = some y := by rw [List.getElem?_eq_getElem hml, hy]
    have hat : (l.map cntA)[m]? = some (cntA y) := by rw [List.getElem?_map, hya]; rfl
    have hfy := hf y (by rw [← hy]; exact List.getElem_mem hml)
    (repeat refine WF ?_); refine AWP.region ?_; (repeat (first | (refine AOps.gN ?_; first | (refine AOps.g_callv ?_; first | refine AOps.k2 (h := (hfy ..)) (k := ?_))) | refine WO ?_ | refine All.i fun X => ?_ | refine AllY.i fun Y => ?_)); refine AOps.nil ?_; (repeat refine WN ?_)
    refine AWP.cond rfl (fun he => ?_) (fun he => ?_)
    · have he : g y < 0 := by simpa using he
      (repeat (first | refine WK ?_ | refine All.i fun X => ?_ | refine AllY.i fun Y => ?_))
      refine lp_next2 (m + 1) j ⟨by omega, hjn, fun hM => (hmono hM).lo hM hya he⟩
    · have he : ¬ g y < 0 := by simpa using he
      (repeat (first | refine WK ?_ | refine All.i fun X => ?_ | refine AllY.i fun Y => ?_))
      refine lp_next2 i m ⟨by omega, by omega, fun hM => (hmono hM).hi hM hya he⟩
  · have h : i = j := by rw [decide_eq_false_iff_not] at hc; omega
    subst h
    by_cases hin : i < n
    · have hil : i < l.length := by omega
      have g1 : decide ((i : Int) < n) = true := decide_eq_true (by omega)
      obtain ⟨y, hy⟩ : ∃ y, l[i] = y := ⟨_, rfl⟩
      have hya : l[i]? = some y := by rw [List.getElem?_eq_getElem hil, hy]
      have hat : (l.map cntA)[i]? = some (cntA y) := by rw [List.getElem?_map, hya]; rfl
      have hfy := hf y (by rw [← hy]; exact List.getElem_mem hil)
      (repeat (first | (refine AOps.gN ?_; first | (refine AOps.g_callv ?_; first | refine AOps.k2 (h := (hfy ..)) (k := ?_))) | refine WK ?_ | refine All.i fun X => ?_ | refine AllY.i fun Y => ?_))
      (refine AWP.ret ?_; (repeat (first | refine inB_r ?_ | refine andThen_r ?_)); refine retQ_r ?_)
      exact ⟨[iA i, bA (decide (g y = 0))], [iA i, bA (decide (g y = 0))], _, [(X, .row 83 2 (l.map cntA))], .cons (.tmp rfl) rfl (.cons (.tmp rfl) rfl .nil), .cons (.cell .same) (.cons (.cell .same) .nil), by exact Sub.f, (i, decide (g y = 0)), ⟨by simp; omega, by simp [hya], hmono⟩, rfl, rfl⟩
    · have g1 : decide ((i : Int) < n) = false := decide_eq_false (by omega)
      (repeat (first | refine WK ?_ | refine All.i fun X => ?_ | refine AllY.i fun Y => ?_))
      (refine AWP.ret ?_; (repeat (first | refine inB_r ?_ | refine andThen_r ?_)); refine retQ_r ?_)
      exact ⟨[iA i, bA false], [iA i, bA false], _, [(X, .row 83 2 (l.map cntA))], .cons (.tmp rfl) rfl (.cons (.tmp rfl) rfl .nil), .cons (.cell .same) (.cons (.cell .same) .nil), by exact Sub.f, (i, false), ⟨by simp; omega, by simp [List.getElem?_eq_none (show l.length ≤ i by omega)], hmono⟩, rfl, rfl⟩
end Go.Proofs.Ytcfleoaldoebhaa

namespace Go.Proofs.Ytcfleoaldoebhaa
set_option linter.unusedVariables false
set_option maxHeartbeats 1000000 in
theorem insertC_sp (X V n i : Nat) (l : List AV) (e : AV) (hn : n = l.length) (hi : i ≤ n) (hb : (n + 1) * 16 ≤ 140737488355328) (hfr : FreeL l) (hfe : FreeE e) (hw : ∀ x ∈ l, x.width = 2) (hwe : e.width = 2) (hze : AV.frzs [e] = [e]) :
    Spec Try.prog 58 [.sl X 0 n, iA i, .sl V 0 1] [(X, .row 83 2 l), (V, .row 83 2 [e])] fun r S' => r = .lst true 83 2 (l.take i ++ e :: l.drop i) ∧ S' = [] := by
  refine Spec.of (nt := 95) (res := [.tmp 6]) Try.func58 rfl (by kernel_rfl) rfl rfl rfl fun Sf => ?_
  have hfV : FreeL [e] := fun x hx => by rw [List.mem_singleton.1 hx]; exact hfe
  have hwV : ∀ x ∈ [e], x.width = 2 := fun x hx => by rw [List.mem_singleton.1 hx]; exact hwe
  (repeat refine WF ?_); refine AWP.region ?_; (repeat (first | refine WO ?_ | refine All.i fun X => ?_ | refine AllY.i fun Y => ?_)); refine AOps.nil ?_; (repeat refine WN ?_)
  (repeat refine WF ?_); refine AWP.region ?_; (repeat (first | (refine AOps.gN ?_; first | refine AOps.p (W.slice_lo rfl rfl (by exact At.f) rfl (by omega)) rfl ?_) | refine WO ?_ | refine All.i fun X => ?_ | refine AllY.i fun Y => ?_)); refine AOps.nil ?_; (repeat refine WN ?_)
  (repeat refine WF ?_); refine AWP.region ?_; (repeat (first | refine WO ?_ | refine All.i fun X => ?_ | refine AllY.i fun Y => ?_)); refine AOps.nil ?_; (repeat refine WN ?_)
  (repeat refine WF ?_); refine AWP.region ?_; (repeat (first | refine WO ?_ | refine All.i fun X => ?_ | refine AllY.i fun Y => ?_)); refine AOps.nil ?_; (repeat refine WN ?_)
  refine AWP.cond_f rfl rfl ?_
  (repeat refine WF ?_); refine AWP.region ?_; (repeat (first | refine WO ?_ | refine All.i fun X => ?_ | refine AllY.i fun Y => ?_)); refine AOps.nil ?_; (repeat refine WN ?_)
  (repeat refine WF ?_); refine AWP.region ?_; (repeat (first | refine WO ?_ | refine All.i fun X => ?_ | refine AllY.i fun Y => ?_)); refine AOps.nil ?_; (repeat refine WN ?_)
  by_cases hin : i = n
  · refine AWP.cond_t rfl (decide_eq_true (by omega)) ?_
    refine AWP.iceL 2 [e] hze ?_
    have hbb : (n + [e].length) * 16 ≤ 140737488355328 := hb
    (repeat (first | refine WK ?_ | refine All.i fun X => ?_ | refine AllY.i fun Y => ?_))
    (refine AWP.ret ?_; (repeat (first | refine inB_r ?_ | refine andThen_r ?_)); refine retQ_r ?_)
    have hm : n + [e].length = (l ++ [e]).length := by rw [List.length_append, hn]
    have hr : l ++ [e] = l.take i ++ e :: l.drop i := by rw [hin, hn, List.take_length, List.drop_length]
    rw [← hr]
    exact ⟨[.sl Y 0 (n + [e].length)], [.lst true 83 2 (l ++ [e])], _, [], .cons (.tmp rfl) rfl .nil, .cons (.cell (.sl (p := 0) .here hm)) .nil, by exact Sub.f, rfl, rfl⟩
  · refine AWP.cond_f rfl (decide_eq_false (by omega)) ?_
    refine AWP.cap X fun Z c u0 hc hnc => ?_
    (repeat refine WF ?_); refine AWP.region ?_; (repeat (first | (refine AOps.gN ?_; first | refine AOps.p (W.cap hc rfl (by exact At.f) (by exact At.f)) rfl ?_) | refine WO ?_ | refine All.i fun X => ?_ | refine AllY.i fun Y => ?_)); refine AOps.nil ?_; (repeat refine WN ?_)
    refine AWP.cond rfl (fun hg => ?_) (fun hg => ?_)
    · have hcn : c < n + 1 := by rw [decide_eq_true_eq] at hg; omega
      refine AWP.rs fun Y => ?_
      (repeat refine WF ?_); refine AWP.region ?_; (repeat (first | (refine AOps.gN ?_; first | refine AOps.p (W.hi (a := i) rfl rfl (by exact At.f) rfl hi) rfl ?_ | refine AOps.p (W.subE ((n + 1 - i : Nat) : Int) (by omega) (by omega) rfl rfl) rfl ?_ | refine AOps.s (W.appzG (n + 1 - i) hc rfl rfl (by exact At.f) (by exact At.f) (by exact At.f) rfl (by exact .inl rfl) (by rfl) (by kernel_rfl) (by omega) (by omega) (by decide) (by omega) (by omega) hfr) rfl ?_) | refine WO ?_ | refine All.i fun X => ?_ | refine AllY.i fun Y => ?_))
      have hsum : i + (n + 1 - i) = n + 1 := by omega
      obtain ⟨l1, hl1⟩ : ∃ l1, l.take i ++ List.replicate (n + 1 - i) (zAV [.int .i64 0, .int .i64 0] true) = l1 := ⟨_, rfl⟩
      have hti : (l.take i).length = i := by rw [List.length_take]; omega
      have hl1n : l1.length = n + 1 := by rw [← hl1, List.length_append, hti, List.length_replicate, hsum]
      have hfr1 : FreeL l1 := fun x hx => by
        rw [← hl1] at hx
        rcases List.mem_append.1 hx with hx | hx
        · exact hfr x (List.mem_of_mem_take hx)
        · rw [List.eq_of_mem_replicate hx]
          exact FreeE.agg (us := [.prim (.int .i64 0), .prim (.int .i64 0)]) fun y hy => by
            simp only [List.mem_cons, List.not_mem_nil, or_false] at hy
            rcases hy with rfl | rfl <;> exact FreeE.prim _
      have htk : l1.take i = l.take i := by rw [← hl1, List.take_left' hti]
      rw [hl1, hsum]
      (repeat first | refine AOps.nil ?_ | refine WF ?_)
      (repeat refine WF ?_); refine AWP.region ?_; (repeat (first | (refine AOps.gN ?_; first | refine AOps.p (W.slice_lo rfl rfl (by exact At.f) rfl (by omega)) rfl ?_ | refine AOps.s (W.copyO 1 rfl rfl (by exact At.f) (by exact At.f) (by rfl) (by omega) (by omega) (by omega) (by omega) (by exact Nat.le_refl _) hfr1 hfV hwV) rfl ?_) | refine WO ?_ | refine All.i fun X => ?_ | refine AllY.i fun Y => ?_))
      obtain ⟨l2, hl2⟩ : ∃ l2, l1.take (0 + i) ++ ([e].drop 0).take 1 ++ l1.drop (0 + i + 1) = l2 := ⟨_, rfl⟩
      rw [hl2]
      have hl2n : l2.length = n + 1 := by rw [← hl2]; simp only [List.length_append, List.length_take, List.length_drop, List.length_singleton]; omega
      have hfr2 : FreeL l2 := fun x hx => by
        rw [← hl2] at hx
        rcases List.mem_append.1 hx with hx | hx
        · rcases List.mem_append.1 hx with hx | hx
          · exact hfr1 x (List.mem_of_mem_take hx)
          · exact hfV x (List.mem_of_mem_drop (List.mem_of_mem_take hx))
        · exact hfr1 x (List.mem_of_mem_drop hx)
      have htk2 : l2.take (0 + (i + 1)) = l.take i ++ [e] := by
        rw [← hl2, Nat.zero_add, Nat.zero_add, htk]
        exact List.take_left' (by simp [hti])
      (repeat first | refine AOps.nil ?_ | refine WF ?_)
      (repeat refine WF ?_); refine AWP.region_run (by kernel_rfl) (by kernel_rfl) ?_; (repeat (first | (refine RGo.gN ?_; first | refine RGo.go (h := W.addE ((i + 1 : Nat) : Int) (by omega) (by omega) rfl rfl) (k := ?_) | refine RGo.go (h := W.slice_lo rfl rfl (by exact At.f) rfl (by omega)) (k := ?_) | refine RGo.goS (h := W.copyO (n - i) rfl rfl (by exact At.f) (by exact At.f) (by rfl) (by omega) (by omega) (by omega) (by omega) (by omega) hfr2 hfr hw) (k := ?_)) | (refine RGo.gQ ?_; first | refine RGo.go (h := W.addE ((i + 1 : Nat) : Int) (by omega) (by omega) rfl rfl) (k := ?_) | refine RGo.go (h := W.slice_lo rfl rfl (by exact At.f) rfl (by omega)) (k := ?_) | refine RGo.goS (h := W.copyO (n - i) rfl rfl (by exact At.f) (by exact At.f) (by rfl) (by omega) (by omega) (by omega) (by omega) (by omega) hfr2 hfr hw) (k := ?_)) | refine RK ?_ | refine RGo.nil (by kernel_rfl) ?_))
      obtain ⟨l3, hl3⟩ : ∃ l3, l2.take (0 + (i + 1)) ++ (l.drop (0 + i)).take (n - i) ++ l2.drop (0 + (i + 1) + (n - i)) = l3 := ⟨_, rfl⟩
      rw [hl3]
      have hr : l3 = l.take i ++ e :: l.drop i := by
        have e1 : l2.drop (0 + (i + 1) + (n - i)) = [] := List.drop_of_length_le (by omega)
        have e2 : (l.drop (0 + i)).take (n - i) = l.drop i := by rw [Nat.zero_add]; exact List.take_of_length_le (by rw [List.length_drop]; omega)
        rw [← hl3, htk2, e1, e2, List.append_nil, List.append_assoc]; rfl
      have hm : n + 1 = l3.length := by
        rw [hr]; simp only [List.length_append, List.length_cons, List.length_drop, hti]; omega
      (repeat (first | refine WK ?_ | refine All.i fun X => ?_ | refine AllY.i fun Y => ?_))
      (refine AWP.ret ?_; (repeat (first | refine inB_r ?_ | refine andThen_r ?_)); refine retQ_r ?_)
      rw [← hr]
      exact ⟨[.sl Y 0 (n + 1)], [.lst true 83 2 l3], _, [], .cons (.tmp rfl) rfl .nil, .cons (.cell (.sl (p := 0) .here hm)) .nil, by exact Sub.f, rfl, rfl⟩
    · have hcn : n + 1 ≤ c := by rw [decide_eq_false_iff_not] at hg; omega
      (repeat refine WF ?_); refine AWP.region ?_; (repeat (first | (refine AOps.gN ?_; first | refine AOps.p (W.sliceC (n + 1) hc rfl rfl (by exact At.f) (by exact At.f) (by omega) hcn) rfl ?_) | refine WO ?_ | refine All.i fun X => ?_ | refine AllY.i fun Y => ?_)); refine AOps.nil ?_; (repeat refine WN ?_)
      (repeat refine WF ?_); refine AWP.region ?_; (repeat (first | (refine AOps.gN ?_; first | refine AOps.p (W.addE ((i + 1 : Nat) : Int) (by omega) (by omega) rfl rfl) rfl ?_ | refine AOps.p (W.slice_lo rfl rfl (by exact At.f) rfl (by omega)) rfl ?_) | refine WO ?_ | refine All.i fun X => ?_ | refine AllY.i fun Y => ?_))
      refine AOps.p (W.over (t := 78) (tR := 4) Try.func75 (by kernel_rfl) (by kernel_rfl) (by kernel_rfl) (by kernel_rfl) rfl rfl (by exact At.f) (by exact At.f) (by rfl) (by decide) (by omega) (by omega)) rfl ?_
      (repeat (first | refine WO ?_ | refine All.i fun X => ?_ | refine AllY.i fun Y => ?_))
      (repeat first | refine AOps.nil ?_ | refine WF ?_)
      refine AWP.cond_t rfl rfl ?_
      (repeat refine WF ?_); refine AWP.region_run (by kernel_rfl) (by kernel_rfl) ?_; (repeat (first | (refine RGo.gN ?_; first | refine RGo.go (h := W.addE ((i + 1 : Nat) : Int) (by omega) (by omega) rfl rfl) (k := ?_) | refine RGo.go (h := W.slice_lo rfl rfl (by exact At.f) rfl (by omega)) (k := ?_) | refine RGo.goS (h := W.copyS (n - i) rfl rfl (by exact At.f) (by omega) (by omega) (by omega) (by omega) (by omega) hfr hw) (k := ?_)) | (refine RGo.gQ ?_; first | refine RGo.go (h := W.addE ((i + 1 : Nat) : Int) (by omega) (by omega) rfl rfl) (k := ?_) | refine RGo.go (h := W.slice_lo rfl rfl (by exact At.f) rfl (by omega)) (k := ?_) | refine RGo.goS (h := W.copyS (n - i) rfl rfl (by exact At.f) (by omega) (by omega) (by omega) (by omega) (by omega) hfr hw) (k := ?_)) | refine RK ?_ | refine RGo.nil (by kernel_rfl) ?_))
      have hti : (l.take i).length = i := by rw [List.length_take]; omega
      obtain ⟨l1, hl1⟩ : ∃ l1, l.take (0 + (i + 1)) ++ (l.drop (0 + i)).take (n - i) ++ l.drop (0 + (i + 1) + (n - i)) = l1 := ⟨_, rfl⟩
      rw [hl1]
      have hti1 : (l.take (i + 1)).length = i + 1 := by rw [List.length_take]; omega
      have hl1e : l1 = l.take (i + 1) ++ l.drop i := by
        have e1 : l.drop (0 + (i + 1) + (n - i)) = [] := List.drop_of_length_le (by omega)
        have e2 : (l.drop (0 + i)).take (n - i) = l.drop i := by rw [Nat.zero_add]; exact List.take_of_length_le (by rw [List.length_drop]; omega)
        rw [← hl1, e1, e2, List.append_nil, Nat.zero_add]
      have hfr1 : FreeL l1 := fun x hx => by
        rw [hl1e] at hx
        rcases List.mem_append.1 hx with hx | hx
        · exact hfr x (List.mem_of_mem_take hx)
        · exact hfr x (List.mem_of_mem_drop hx)
      have hl1n : l1.length = n + 1 := by rw [hl1e, List.length_append, hti1, List.length_drop]; omega
      have htk : l1.take i = l.take i := by rw [hl1e, List.take_append_of_le_length (by omega), List.take_take, Nat.min_eq_left (by omega)]
      have hdr : l1.drop (i + 1) = l.drop i := by rw [hl1e, List.drop_left' hti1]
      (repeat refine WF ?_); refine AWP.region ?_; (repeat (first | (refine AOps.gN ?_; first | refine AOps.p (W.slice_lo rfl rfl (by exact At.f) rfl (by omega)) rfl ?_ | refine AOps.s (W.copyO 1 rfl rfl (by exact At.f) (by exact At.f) (by rfl) (by omega) (by omega) (by omega) (by omega) (by exact Nat.le_refl _) hfr1 hfV hwV) rfl ?_) | refine WO ?_ | refine All.i fun X => ?_ | refine AllY.i fun Y => ?_))
      obtain ⟨l2, hl2⟩ : ∃ l2, l1.take (0 + i) ++ ([e].drop 0).take 1 ++ l1.drop (0 + i + 1) = l2 := ⟨_, rfl⟩
      rw [hl2]
      have hr : l2 = l.take i ++ e :: l.drop i := by
        rw [← hl2, Nat.zero_add, htk, hdr, List.append_assoc]; rfl
      have hm : n + 1 = l2.length := by
        rw [hr]; simp only [List.length_append, List.length_cons, List.length_drop, hti]; omega
      (repeat first | refine AOps.nil ?_ | refine WF ?_)
      (repeat (first | refine WK ?_ | refine All.i fun X => ?_ | refine AllY.i fun Y => ?_))
      (refine AWP.ret ?_; (repeat (first | refine inB_r ?_ | refine andThen_r ?_)); refine retQ_r ?_)
      rw [← hr]
      exact ⟨[.sl X 0 (n + 1)], [.lst true 83 2 l2], _, [], .cons (.tmp rfl) rfl .nil, .cons (.cell (.sl (p := 1) (.next .here) hm)) .nil, by exact Sub.f, rfl, rfl⟩
end Go.Proofs.Ytcfleoaldoebhaa

namespace Go.Proofs.Ytcfleoaldoebhaa
set_option linter.unusedVariables false
theorem cnt_free (x : Int × Int) : FreeE (cntA x) := FreeE.agg fun y hy => by
  simp only [List.mem_cons, List.not_mem_nil, or_false] at hy
  rcases hy with rfl | rfl <;> exact FreeE.prim _
theorem cnts_free (l : List (Int × Int)) : FreeL (l.map cntA) := fun x hx => by
  obtain ⟨y, _, rfl⟩ := List.mem_map.1 hx
  exact cnt_free y
theorem counts_sp (l : List Evt) (hl : l.length * 32 ≤ 140737488351232) : Spec Try.prog 37 [evtsA false l] [] fun r S' => ∃ b, CntOK l b ∧ r = cntsA true b ∧ S' = [] := by
  refine Spec.of (nt := 40) (res := [.tmp 2]) Try.func37 rfl (by kernel_rfl) rfl rfl rfl fun Sf => ?_
  have hlm : (l.map evtA).length = l.length := List.length_map _
  (repeat refine WF ?_); refine AWP.region ?_; (repeat (first | refine WO ?_ | refine All.i fun X => ?_ | refine AllY.i fun Y => ?_)); refine AOps.nil ?_; (repeat refine WN ?_)
  (repeat refine WF ?_); refine AWP.region ?_; (repeat (first | refine WO ?_ | refine All.i fun X => ?_ | refine AllY.i fun Y => ?_)); refine AOps.nil ?_; (repeat refine WN ?_)
  refine AWP.adopt (d := 3) 83 2 rfl fun A => ?_
  (repeat (first | refine WK ?_ | refine All.i fun X => ?_ | refine AllY.i fun Y => ?_))
  refine AWP.lp5 (fun (i A a : Nat) (M : List AV) (L : List (Int × Int)) => ⟨[(3, .sl A 0 a), (8, evtsA false l), (9, iA (l.map evtA).length), (10, iA i)], (A, .row 83 2 M) :: Sf⟩) (fun i _ a M L => i ≤ l.length ∧ M = L.map cntA ∧ a = (L.map cntA).length ∧ CntOK (l.take i) L) (fun i _ _ _ _ => l.length - i) 0 A 0 [] [] ⟨Nat.zero_le _, rfl, rfl, ⟨.nil, by simp, by simp, by simp, rfl⟩⟩ ?_
  rintro i A a M L ⟨hi, rfl, ha, hOK⟩
  (repeat (first | refine WK ?_ | refine All.i fun X => ?_ | refine AllY.i fun Y => ?_))
  refine AWP.cond rfl (fun hc => ?_) (fun hc => ?_)
  · have h : i < l.length := by rw [decide_eq_true_eq, hlm] at hc; omega
    obtain ⟨e, he⟩ : ∃ e, l[i] = e := ⟨_, rfl⟩
    have hat : (l.map evtA)[i]? = some (evtA e) := by rw [List.getElem?_map, List.getElem?_eq_getElem h, he]; rfl
    have htk : l.take (i + 1) = l.take i ++ [e] := by rw [List.take_succ_eq_append_getElem h, he]
    have haL : a = L.length := by rw [ha, List.length_map]
    have hal : a ≤ i := by have := hOK.len; rw [List.length_take] at this; omega
    have hsp := searchC_sp A a L (iA e.sys) e.sys 56 [] (fun x => cmpI x.1 e.sys) rfl rfl ha (by omega) (fun x _ => counts1_ps x e.sys)
    (repeat refine WF ?_); refine AWP.region ?_; (repeat (first | refine WO ?_ | refine All.i fun V => ?_ | refine AllY.i fun Y => ?_)); refine AOps.nil ?_; (repeat refine WN ?_)
    refine AWP.iceP [5] .here (b := evtA e) (hf := ⟨rfl⟩) ?_ (by intro d hd; simp only [List.mem_singleton] at hd; subst hd; rfl)
    (repeat refine WF ?_); refine AWP.region ?_; (repeat (first | refine WO ?_ | refine All.i fun X => ?_ | refine AllY.i fun Y => ?_))
    refine AOps.eo3 (h := hsp) fun b hb => ?_
    obtain ⟨bi, bb⟩ := b
    dsimp only
    have hMono : MonoL (fun x : Int × Int => cmpI x.1 e.sys) L := fun p q x y hpq hx hy hg => by
      have hg := (cmpI_lt _ _).1 hg
      refine (cmpI_lt _ _).2 ?_
      rcases Nat.lt_or_ge p q with h1 | h1
      · have := hOK.lt h1 hx hy; omega
      · have h2 : p = q := by omega
        subst h2
        rw [hx] at hy
        injection hy with hy
        rw [hy]; exact hg
    have hspl := hb.mono hMono
    cases bb
    · have hbi : bi ≤ a := by have := hb.le; omega
      (repeat (first | refine WO ?_ | refine All.i fun X => ?_ | refine AllY.i fun Y => ?_))
      (repeat first | refine AOps.nil ?_ | refine WF ?_)
      (repeat refine WF ?_); refine AWP.region ?_; (repeat (first | refine WO ?_ | refine All.i fun X => ?_ | refine AllY.i fun Y => ?_)); refine AOps.nil ?_; (repeat refine WN ?_)
      refine AWP.cond_t rfl rfl ?_
      refine AWP.rs fun Y => AWP.rs fun K2 => ?_
      (repeat refine WF ?_); refine AWP.region ?_; (repeat (first | (refine AOps.gN ?_; first | refine AOps.s (W.lit1 (X := K2) (l := [cntA (e.sys, 0)]) (by exact rfl) (by exact At.f) (by exact rfl) (by exact .inl rfl) (by decide) (by decide) (by exact rfl)) rfl ?_) | refine WO ?_ | refine All.i fun X => ?_ | refine AllY.i fun Y => ?_))
      have hw2 : ∀ x ∈ L.map cntA, x.width = 2 := fun x hx => by obtain ⟨y, _, rfl⟩ := List.mem_map.1 hx; rfl
      have hins := (insertC_sp A K2 a bi (L.map cntA) (cntA (e.sys, 0)) ha hbi (by omega) (cnts_free L) (cnt_free _) hw2 rfl rfl).used2
      refine AOps.z3 (h := hins) (hT := .ls (Y := Y)) (k := ?_)
      (repeat (first | refine WO ?_ | refine All.i fun X => ?_ | refine AllY.i fun Y => ?_))
      obtain ⟨L2, hL2⟩ : ∃ L2, L.take bi ++ (e.sys, (0 : Int)) :: L.drop bi = L2 := ⟨_, rfl⟩
      have hL2m : (L.map cntA).take bi ++ cntA (e.sys, 0) :: (L.map cntA).drop bi = L2.map cntA := by
        rw [← hL2, List.map_append, List.map_cons, List.map_take, List.map_drop]
      have hbl : (L.take bi).length = bi := by rw [List.length_take]; omega
      have hx2 : L2[bi]? = some (e.sys, 0) := by rw [← hL2, List.getElem?_append_right (by omega), hbl, Nat.sub_self]; rfl
      have hat2 : (L2.map cntA)[bi]? = some (cntA (e.sys, 0)) := by rw [List.getElem?_map, hx2]; rfl
      have hb2 : bi < (L2.map cntA).length := (List.getElem?_eq_some_iff.1 hat2).1
      have hset : L2.set bi (e.sys, 1) = L.take bi ++ (e.sys, 1) :: L.drop bi := by
        rw [← hL2, List.set_append_right _ _ (by omega), hbl, Nat.sub_self]; rfl
      rw [hL2m]
      (repeat first | refine AOps.nil ?_ | refine WF ?_)
      (repeat (first | refine WK ?_ | refine All.i fun X => ?_ | refine AllY.i fun Y => ?_))
      refine lp_next5 (i + 1) Y (L2.map cntA).length ((L2.map cntA).set bi (.agg [iA e.sys, iA ((e.sys, (0 : Int)).2 + 1)])) (L2.set bi (e.sys, 1)) ⟨h, by rw [List.map_set]; rfl, by rw [List.length_map, List.length_map, List.length_set], ?_⟩
      rw [htk, hset]
      refine hOK.new (fun k x hk hx => ?_) fun k x hk hx => ?_
      · exact (cmpI_lt _ _).1 (hspl.1 k x hk hx)
      · have h2 : ¬ x.1 < e.sys := fun h3 => hspl.2 k x hk hx ((cmpI_lt _ _).2 h3)
        have h4 : x.1 ≠ e.sys := fun h3 => by
          have hk1 := (List.getElem?_eq_some_iff.1 hx).1
          obtain ⟨y, hy⟩ : ∃ y, L[bi]? = some y := ⟨_, List.getElem?_eq_getElem (show bi < L.length by omega)⟩
          have h5 : ¬ y.1 < e.sys := fun h6 => hspl.2 bi y (Nat.le_refl _) hy ((cmpI_lt _ _).2 h6)
          have h6 : y.1 ≠ e.sys := fun h7 => by
            have := hb.eq.2 ⟨y, hy, (cmpI_eq _ _).2 h7⟩
            cases this
          rcases Nat.lt_or_ge bi k with h7 | h7
          · have := hOK.lt h7 hy hx; omega
          · have h8 : k = bi := by omega
            subst h8
            rw [hx] at hy
            injection hy with hy
            exact h6 (by rw [← hy]; exact h3)
        omega
    · obtain ⟨x, hx, hx0⟩ := hb.eq.1 rfl
      dsimp only at hx
      have hxe : x.1 = e.sys := by
        unfold cmpI at hx0
        by_cases h1 : x.1 < e.sys
        · simp [h1] at hx0
        · by_cases h3 : e.sys < x.1
          · simp [h1, h3] at hx0
          · omega
      have hat2 : (L.map cntA)[bi]? = some (cntA x) := by rw [List.getElem?_map, hx]; rfl
      have hb2 : bi < a := by rw [ha]; exact (List.getElem?_eq_some_iff.1 hat2).1
      have hx2 := hOK.cnt x (List.mem_of_getElem? hx)
      have hx3 : ((l.take i).filter fun e' => decide (e'.sys = x.1)).length ≤ i := by
        refine Nat.le_trans (List.length_filter_le ..) ?_
        rw [List.length_take]; omega
      (repeat (first | refine WO ?_ | refine All.i fun X => ?_ | refine AllY.i fun Y => ?_))
      (repeat first | refine AOps.nil ?_ | refine WF ?_)
      (repeat refine WF ?_); refine AWP.region ?_; (repeat (first | refine WO ?_ | refine All.i fun X => ?_ | refine AllY.i fun Y => ?_)); refine AOps.nil ?_; (repeat refine WN ?_)
      refine AWP.cond_f rfl rfl ?_
      (repeat (first | refine WK ?_ | refine All.i fun X => ?_ | refine AllY.i fun Y => ?_))
      refine lp_next5 (i + 1) A a ((L.map cntA).set bi (.agg [iA x.1, iA (x.2 + 1)])) (L.set bi (x.1, x.2 + 1)) ⟨h, by rw [List.map_set], by rw [ha, List.length_map, List.length_map, List.length_set], ?_⟩
      rw [htk]
      exact hOK.found hx hxe
  · have h : i = l.length := by rw [decide_eq_false_iff_not, hlm] at hc; omega
    subst h
    rw [List.take_length] at hOK
    (repeat (first | refine WK ?_ | refine All.i fun X => ?_ | refine AllY.i fun Y => ?_))
    (refine AWP.ret ?_; (repeat (first | refine inB_r ?_ | refine andThen_r ?_)); refine retQ_r ?_)
    exact ⟨[.sl A 0 a], [cntsA true L], _, [], .cons (.tmp rfl) rfl .nil, .cons (.cell (.sl (p := 0) .here ha)) .nil, by exact Sub.f, L, hOK, rfl, rfl⟩
end Go.Proofs.Ytcfleoaldoebhaa

namespace Go.Proofs.Ytcfleoaldoebhaa
set_option linter.unusedVariables false
set_option maxHeartbeats 1000000 in
theorem searchV_sp (X n : Nat) (l : List Evt) (t : AV) (t0 : Evt) (f : FuncId) (cap : List AV) (g : Evt → Int) (ht : t = evtA t0) (hs : st1s cap = true) (hn : n = (l.map evtA).length) (hl : n ≤ 4611686018427387904) (hf : ∀ x ∈ l, PS Try.prog f (evtA x :: t :: cap) (iA (g x))) :
    Spec Try.prog 61 [.sl X 0 n, t, .fn f cap] [(X, .row 30 4 (l.map evtA))] fun r S' => ∃ b, Found g l b ∧ r = .tup [iA b.1, bA b.2] ∧ S' = [(X, .row 30 4 (l.map evtA))] := by
  subst ht
  refine Spec.of (nt := 49) (res := [.tmp 6, .tmp 7]) Try.func61 rfl (by kernel_rfl) rfl rfl rfl fun Sf => ?_
  have hll : n = l.length := by rw [hn, List.length_map]
  (repeat (first | (refine AOps.gN ?_; first | (refine AOps.g_box ?_; refine AOps.goB ?_)) | refine WK ?_ | refine All.i fun X => ?_ | refine AllY.i fun Y => ?_))
  refine AWP.lp2 (fun (i j : Nat) => ⟨[(0, .sl X 0 n), (4, .fp (evtA t0).cells), (2, .fn f cap), (8, iA n), (9, iA i), (10, iA j)], (X, .row 30 4 (l.map evtA)) :: Sf⟩) (fun i j => i ≤ j ∧ j ≤ n ∧ (MonoL g l → Spl g l i j)) (fun i j => j - i) 0 n ⟨Nat.zero_le _, Nat.le_refl _, fun _ => ⟨fun k x h => absurd h (by omega), fun k x h hx => by have := (List.getElem?_eq_some_iff.1 hx).1; omega⟩⟩ ?_
  rintro i j ⟨hij, hjn, hmono⟩
  (repeat (first | refine WK ?_ | refine All.i fun X => ?_ | refine AllY.i fun Y => ?_))
  refine AWP.cond rfl (fun hc => ?_) (fun hc => ?_)
  · have h : i < j := by rw [decide_eq_true_eq] at hc; omega
    have hmid : ((i : Int) + j).fdiv (2 ^ 1) = (((i + j) / 2 : Nat) : Int) := by
      rw [Int.fdiv_eq_ediv_of_nonneg _ (by decide)]; omega
    have hw1 : IntKind.u64.wrap ((i : Int) + j) = i + j := by rw [IntKind.wrap_u64]; omega
    have hw2 : IntKind.i64.wrap (((i : Int) + j).fdiv (2 ^ 1)) = ((i : Int) + j).fdiv (2 ^ 1) := by
      rw [IntKind.wrap_i64, hmid]; omega
    (repeat refine WF ?_); refine AWP.region ?_; (repeat (first | (refine AOps.gN ?_; first | refine AOps.p (W.conv .i64 .u64 (by kernel_rfl) (by kernel_rfl) rfl hw1) rfl ?_ | refine AOps.p (W.shr 1 rfl rfl rfl (by decide)) rfl ?_ | refine AOps.p (W.conv .u64 .i64 (by kernel_rfl) (by kernel_rfl) rfl hw2) rfl ?_) | refine WO ?_ | refine All.i fun X => ?_ | refine AllY.i fun Y => ?_)); refine AOps.nil ?_; (repeat refine WN ?_)
    rw [hmid]
    obtain ⟨m, hm⟩ : ∃ m, (i + j) / 2 = m := ⟨_, rfl⟩
    rw [hm]
    have hml : m < l.length := by omega
    have hmn : m < n := by omega
    obtain ⟨y, hy⟩ : ∃ y, l[m] = y := ⟨_, rfl⟩
    have hya : l[m]? = some y := by rw [List.getElem?_eq_getElem hml, hy]
    have hat : (l.map evtA)[m]? = some (evtA y) := by rw [List.getElem?_map, hya]; rfl
    have hfy := hf y (by rw [← hy]; exact List.getElem_mem hml)
    (repeat refine WF ?_); refine AWP.region_run (by kernel_rfl) (by kernel_rfl) ?_; (repeat (first | (refine RGo.gN ?_; first | (refine RGo.g_callv ?_; first | refine RGo.k2 (h := (hfy ..)) (k := ?_))) | (refine RGo.gQ ?_; first | (refine RGo.g_callv ?_; first | refine RGo.k2 (h := (hfy ..)) (k := ?_))) | refine RK ?_ | refine RGo.nil (by kernel_rfl) ?_))
    refine AWP.cond rfl (fun he => ?_) (fun he => ?_)
    · have he : g y < 0 := by simpa using he
      (repeat (first | refine WK ?_ | refine All.i fun X => ?_ | refine AllY.i fun Y => ?_))
      refine lp_next2 (m + 1) j ⟨by omega, hjn, fun hM => (hmono hM).lo hM hya he⟩
    · have he : ¬ g y < 0 := by simpa using he
      (repeat (first | refine WK ?_ | refine All.i fun X => ?_ | refine AllY.i fun Y => ?_))
      refine lp_next2 i m ⟨by omega, by omega, fun hM => (hmono hM).hi hM hya he⟩
  · have h : i = j := by rw [decide_eq_false_iff_not] at hc; omega
    subst h
    by_cases hin : i < n
    · have hil : i < l.length := by omega
      have g1 : decide ((i : Int) < n) = true := decide_eq_true (by omega)
      obtain ⟨y, hy⟩ : ∃ y, l[i] = y := ⟨_, rfl⟩
      have hya : l[i]? = some y := by rw [List.getElem?_eq_getElem hil, hy]
      have hat : (l.map evtA)[i]? = some (evtA y) := by rw [List.getElem?_map, hya]; rfl
      have hfy := hf y (by rw [← hy]; exact List.getElem_mem hil)
      (repeat refine WF ?_); refine AWP.region_run (by kernel_rfl) (by kernel_rfl) ?_; (repeat (first | (refine RGo.gN ?_; first | (refine RGo.g_callv ?_; first | refine RGo.k2 (h := (hfy ..)) (k := ?_))) | (refine RGo.gQ ?_; first | (refine RGo.g_callv ?_; first | refine RGo.k2 (h := (hfy ..)) (k := ?_))) | refine RK ?_ | refine RGo.nil (by kernel_rfl) ?_))
      (repeat (first | refine WK ?_ | refine All.i fun X => ?_ | refine AllY.i fun Y => ?_))
      (refine AWP.ret ?_; (repeat (first | refine inB_r ?_ | refine andThen_r ?_)); refine retQ_r ?_)
      exact ⟨[iA i, bA (decide (g y = 0))], [iA i, bA (decide (g y = 0))], _, [(X, .row 30 4 (l.map evtA))], .cons (.tmp rfl) rfl (.cons (.tmp rfl) rfl .nil), .cons (.cell .same) (.cons (.cell .same) .nil), by exact Sub.f, (i, decide (g y = 0)), ⟨by simp; omega, by simp [hya], hmono⟩, rfl, rfl⟩
    · have g1 : decide ((i : Int) < n) = false := decide_eq_false (by omega)
      (repeat refine WF ?_); refine AWP.region_run (by kernel_rfl) (by kernel_rfl) ?_; (repeat (first | refine RK ?_ | refine RGo.nil (by kernel_rfl) ?_))
      (repeat (first | refine WK ?_ | refine All.i fun X => ?_ | refine AllY.i fun Y => ?_))
      (refine AWP.ret ?_; (repeat (first | refine inB_r ?_ | refine andThen_r ?_)); refine retQ_r ?_)
      exact ⟨[iA i, bA false], [iA i, bA false], _, [(X, .row 30 4 (l.map evtA))], .cons (.tmp rfl) rfl (.cons (.tmp rfl) rfl .nil), .cons (.cell .same) (.cons (.cell .same) .nil), by exact Sub.f, (i, false), ⟨by simp; omega, by simp [List.getElem?_eq_none (show l.length ≤ i by omega)], hmono⟩, rfl, rfl⟩
end Go.Proofs.Ytcfleoaldoebhaa

namespace Go.Proofs.Ytcfleoaldoebhaa
set_option linter.unusedVariables false
set_option maxHeartbeats 1000000 in
theorem insertV_sp (X V n i : Nat) (l : List AV) (e : AV) (hn : n = l.length) (hi : i ≤ n) (hb : (n + 1) * 32 ≤ 140737488355328) (hfr : FreeL l) (hfe : FreeE e) (hw : ∀ x ∈ l, x.width = 4) (hwe : e.width = 4) (hze : AV.frzs [e] = [e]) :
    Spec Try.prog 63 [.sl X 0 n, iA i, .sl V 0 1] [(X, .row 30 4 l), (V, .row 30 4 [e])] fun r S' => r = .lst true 30 4 (l.take i ++ e :: l.drop i) ∧ S' = [] := by
  refine Spec.of (nt := 95) (res := [.tmp 6]) Try.func63 rfl (by kernel_rfl) rfl rfl rfl fun Sf => ?_
  have hfV : FreeL [e] := fun x hx => by rw [List.mem_singleton.1 hx]; exact hfe
  have hwV : ∀ x ∈ [e], x.width = 4 := fun x hx => by rw [List.mem_singleton.1 hx]; exact hwe
  (repeat refine WF ?_); refine AWP.region ?_; (repeat (first | refine WO ?_ | refine All.i fun X => ?_ | refine AllY.i fun Y => ?_)); refine AOps.nil ?_; (repeat refine WN ?_)
  (repeat refine WF ?_); refine AWP.region ?_; (repeat (first | (refine AOps.gN ?_; first | refine AOps.p (W.slice_lo rfl rfl (by exact At.f) rfl (by omega)) rfl ?_) | refine WO ?_ | refine All.i fun X => ?_ | refine AllY.i fun Y => ?_)); refine AOps.nil ?_; (repeat refine WN ?_)
  (repeat refine WF ?_); refine AWP.region ?_; (repeat (first | refine WO ?_ | refine All.i fun X => ?_ | refine AllY.i fun Y => ?_)); refine AOps.nil ?_; (repeat refine WN ?_)
  (repeat refine WF ?_); refine AWP.region ?_; (repeat (first | refine WO ?_ | refine All.i fun X => ?_ | refine AllY.i fun Y => ?_)); refine AOps.nil ?_; (repeat refine WN ?_)
  refine AWP.cond_f rfl rfl ?_
  (repeat refine WF ?_); refine AWP.region ?_; (repeat (first | refine WO ?_ | refine All.i fun X => ?_ | refine AllY.i fun Y => ?_)); refine AOps.nil ?_; (repeat refine WN ?_)
  (repeat refine WF ?_); refine AWP.region ?_; (repeat (first | refine WO ?_ | refine All.i fun X => ?_ | refine AllY.i fun Y => ?_)); refine AOps.nil ?_; (repeat refine WN ?_)
  by_cases hin : i = n
  · refine AWP.cond_t rfl (decide_eq_true (by omega)) ?_
    refine AWP.iceL 2 [e] hze ?_
    have hbb : (n + [e].length) * 32 ≤ 140737488355328 := hb
    (repeat (first | refine WK ?_ | refine All.i fun X => ?_ | refine AllY.i fun Y => ?_))
    (refine AWP.ret ?_; (repeat (first | refine inB_r ?_ | refine andThen_r ?_)); refine retQ_r ?_)
    have hm : n + [e].length = (l ++ [e]).length := by rw [List.length_append, hn]
    have hr : l ++ [e] = l.take i ++ e :: l.drop i := by rw [hin, hn, List.take_length, List.drop_length]
    rw [← hr]
    exact ⟨[.sl Y 0 (n + [e].length)], [.lst true 30 4 (l ++ [e])], _, [], .cons (.tmp rfl) rfl .nil, .cons (.cell (.sl (p := 0) .here hm)) .nil, by exact Sub.f, rfl, rfl⟩
  · refine AWP.cond_f rfl (decide_eq_false (by omega)) ?_
    refine AWP.cap X fun Z c u0 hc hnc => ?_
    (repeat refine WF ?_); refine AWP.region ?_; (repeat (first | (refine AOps.gN ?_; first | refine AOps.p (W.cap hc rfl (by exact At.f) (by exact At.f)) rfl ?_) | refine WO ?_ | refine All.i fun X => ?_ | refine AllY.i fun Y => ?_)); refine AOps.nil ?_; (repeat refine WN ?_)
    refine AWP.cond rfl (fun hg => ?_) (fun hg => ?_)
    · have hcn : c < n + 1 := by rw [decide_eq_true_eq] at hg; omega
      refine AWP.rs fun Y => ?_
      (repeat refine WF ?_); refine AWP.region ?_; (repeat (first | (refine AOps.gN ?_; first | refine AOps.p (W.hi (a := i) rfl rfl (by exact At.f) rfl hi) rfl ?_ | refine AOps.p (W.subE ((n + 1 - i : Nat) : Int) (by omega) (by omega) rfl rfl) rfl ?_ | refine AOps.s (W.appzG (n + 1 - i) hc rfl rfl (by exact At.f) (by exact At.f) (by exact At.f) rfl (by exact .inl rfl) (by rfl) (by kernel_rfl) (by omega) (by omega) (by decide) (by omega) (by omega) hfr) rfl ?_) | refine WO ?_ | refine All.i fun X => ?_ | refine AllY.i fun Y => ?_))
      have hsum : i + (n + 1 - i) = n + 1 := by omega
      obtain ⟨l1, hl1⟩ : ∃ l1, l.take i ++ List.replicate (n + 1 - i) (zAV [.int .i64 0, .int .i64 0, .int .i64 0, .int .i64 0] true) = l1 := ⟨_, rfl⟩
      have hti : (l.take i).length = i := by rw [List.length_take]; omega
      have hl1n : l1.length = n + 1 := by rw [← hl1, List.length_append, hti, List.length_replicate, hsum]
      have hfr1 : FreeL l1 := fun x hx => by
        rw [← hl1] at hx
        rcases List.mem_append.1 hx with hx | hx
        · exact hfr x (List.mem_of_mem_take hx)
        · rw [List.eq_of_mem_replicate hx]
          exact FreeE.agg (us := [.prim (.int .i64 0), .prim (.int .i64 0), .prim (.int .i64 0), .prim (.int .i64 0)]) fun y hy => by
            simp only [List.mem_cons, List.not_mem_nil, or_false] at hy
            rcases hy with rfl | rfl | rfl | rfl <;> exact FreeE.prim _
      have htk : l1.take i = l.take i := by rw [← hl1, List.take_left' hti]
      rw [hl1, hsum]
      (repeat first | refine AOps.nil ?_ | refine WF ?_)
      (repeat refine WF ?_); refine AWP.region ?_; (repeat (first | (refine AOps.gN ?_; first | refine AOps.p (W.slice_lo rfl rfl (by exact At.f) rfl (by omega)) rfl ?_ | refine AOps.s (W.copyO 1 rfl rfl (by exact At.f) (by exact At.f) (by rfl) (by omega) (by omega) (by omega) (by omega) (by exact Nat.le_refl _) hfr1 hfV hwV) rfl ?_) | refine WO ?_ | refine All.i fun X => ?_ | refine AllY.i fun Y => ?_))
      obtain ⟨l2, hl2⟩ : ∃ l2, l1.take (0 + i) ++ ([e].drop 0).take 1 ++ l1.drop (0 + i + 1) = l2 := ⟨_, rfl⟩
      rw [hl2]
      have hl2n : l2.length = n + 1 := by rw [← hl2]; simp only [List.length_append, List.length_take, List.length_drop, List.length_singleton]; omega
      have hfr2 : FreeL l2 := fun x hx => by
        rw [← hl2] at hx
        rcases List.mem_append.1 hx with hx | hx
        · rcases List.mem_append.1 hx with hx | hx
          · exact hfr1 x (List.mem_of_mem_take hx)
          · exact hfV x (List.mem_of_mem_drop (List.mem_of_mem_take hx))
        · exact hfr1 x (List.mem_of_mem_drop hx)
      have htk2 : l2.take (0 + (i + 1)) = l.take i ++ [e] := by
        rw [← hl2, Nat.zero_add, Nat.zero_add, htk]
        exact List.take_left' (by simp [hti])
      (repeat first | refine AOps.nil ?_ | refine WF ?_)
      (repeat refine WF ?_); refine AWP.region_run (by kernel_rfl) (by kernel_rfl) ?_; (repeat (first | (refine RGo.gN ?_; first | refine RGo.go (h := W.addE ((i + 1 : Nat) : Int) (by omega) (by omega) rfl rfl) (k := ?_) | refine RGo.go (h := W.slice_lo rfl rfl (by exact At.f) rfl (by omega)) (k := ?_) | refine RGo.goS (h := W.copyO (n - i) rfl rfl (by exact At.f) (by exact At.f) (by rfl) (by omega) (by omega) (by omega) (by omega) (by omega) hfr2 hfr hw) (k := ?_)) | (refine RGo.gQ ?_; first | refine RGo.go (h := W.addE ((i + 1 : Nat) : Int) (by omega) (by omega) rfl rfl) (k := ?_) | refine RGo.go (h := W.slice_lo rfl rfl (by exact At.f) rfl (by omega)) (k := ?_) | refine RGo.goS (h := W.copyO (n - i) rfl rfl (by exact At.f) (by exact At.f) (by rfl) (by omega) (by omega) (by omega) (by omega) (by omega) hfr2 hfr hw) (k := ?_)) | refine RK ?_ | refine RGo.nil (by kernel_rfl) ?_))
      obtain ⟨l3, hl3⟩ : ∃ l3, l2.take (0 + (i + 1)) ++ (l.drop (0 + i)).take (n - i) ++ l2.drop (0 + (i + 1) + (n - i)) = l3 := ⟨_, rfl⟩
      rw [hl3]
      have hr : l3 = l.take i ++ e :: l.drop i := by
        have e1 : l2.drop (0 + (i + 1) + (n - i)) = [] := List.drop_of_length_le (by omega)
        have e2 : (l.drop (0 + i)).take (n - i) = l.drop i := by rw [Nat.zero_add]; exact List.take_of_length_le (by rw [List.length_drop]; omega)
        rw [← hl3, htk2, e1, e2, List.append_nil, List.append_assoc]; rfl
      have hm : n + 1 = l3.length := by
        rw [hr]; simp only [List.length_append, List.length_cons, List.length_drop, hti]; omega
      (repeat (first | refine WK ?_ | refine All.i fun X => ?_ | refine AllY.i fun Y => ?_))
      (refine AWP.ret ?_; (repeat (first | refine inB_r ?_ | refine andThen_r ?_)); refine retQ_r ?_)
      rw [← hr]
      exact ⟨[.sl Y 0 (n + 1)], [.lst true 30 4 l3], _, [], .cons (.tmp rfl) rfl .nil, .cons (.cell (.sl (p := 0) .here hm)) .nil, by exact Sub.f, rfl, rfl⟩
    · have hcn : n + 1 ≤ c := by rw [decide_eq_false_iff_not] at hg; omega
      (repeat refine WF ?_); refine AWP.region ?_; (repeat (first | (refine AOps.gN ?_; first | refine AOps.p (W.sliceC (n + 1) hc rfl rfl (by exact At.f) (by exact At.f) (by omega) hcn) rfl ?_) | refine WO ?_ | refine All.i fun X => ?_ | refine AllY.i fun Y => ?_)); refine AOps.nil ?_; (repeat refine WN ?_)
      (repeat refine WF ?_); refine AWP.region ?_; (repeat (first | (refine AOps.gN ?_; first | refine AOps.p (W.addE ((i + 1 : Nat) : Int) (by omega) (by omega) rfl rfl) rfl ?_ | refine AOps.p (W.slice_lo rfl rfl (by exact At.f) rfl (by omega)) rfl ?_) | refine WO ?_ | refine All.i fun X => ?_ | refine AllY.i fun Y => ?_))
      refine AOps.p (W.over (t := 22) (tR := 4) Try.func79 (by kernel_rfl) (by kernel_rfl) (by kernel_rfl) (by kernel_rfl) rfl rfl (by exact At.f) (by exact At.f) (by rfl) (by decide) (by omega) (by omega)) rfl ?_
      (repeat (first | refine WO ?_ | refine All.i fun X => ?_ | refine AllY.i fun Y => ?_))
      (repeat first | refine AOps.nil ?_ | refine WF ?_)
      refine AWP.cond_t rfl rfl ?_
      (repeat refine WF ?_); refine AWP.region_run (by kernel_rfl) (by kernel_rfl) ?_; (repeat (first | (refine RGo.gN ?_; first | refine RGo.go (h := W.addE ((i + 1 : Nat) : Int) (by omega) (by omega) rfl rfl) (k := ?_) | refine RGo.go (h := W.slice_lo rfl rfl (by exact At.f) rfl (by omega)) (k := ?_) | refine RGo.goS (h := W.copyS (n - i) rfl rfl (by exact At.f) (by omega) (by omega) (by omega) (by omega) (by omega) hfr hw) (k := ?_)) | (refine RGo.gQ ?_; first | refine RGo.go (h := W.addE ((i + 1 : Nat) : Int) (by omega) (by omega) rfl rfl) (k := ?_) | refine RGo.go (h := W.slice_lo rfl rfl (by exact At.f) rfl (by omega)) (k := ?_) | refine RGo.goS (h := W.copyS (n - i) rfl rfl (by exact At.f) (by omega) (by omega) (by omega) (by omega) (by omega) hfr hw) (k := ?_)) | refine RK ?_ | refine RGo.nil (by kernel_rfl) ?_))
      have hti : (l.take i).length = i := by rw [List.length_take]; omega
      obtain ⟨l1, hl1⟩ : ∃ l1, l.take (0 + (i + 1)) ++ (l.drop (0 + i)).take (n - i) ++ l.drop (0 + (i + 1) + (n - i)) = l1 := ⟨_, rfl⟩
      rw [hl1]
      have hti1 : (l.take (i + 1)).length = i + 1 := by rw [List.length_take]; omega
      have hl1e : l1 = l.take (i + 1) ++ l.drop i := by
        have e1 : l.drop (0 + (i + 1) + (n - i)) = [] := List.drop_of_length_le (by omega)
        have e2 : (l.drop (0 + i)).take (n - i) = l.drop i := by rw [Nat.zero_add]; exact List.take_of_length_le (by rw [List.length_drop]; omega)
        rw [← hl1, e1, e2, List.append_nil, Nat.zero_add]
      have hfr1 : FreeL l1 := fun x hx => by
        rw [hl1e] at hx
        rcases List.mem_append.1 hx with hx | hx
        · exact hfr x (List.mem_of_mem_take hx)
        · exact hfr x (List.mem_of_mem_drop hx)
      have hl1n : l1.length = n + 1 := by rw [hl1e, List.length_append, hti1, List.length_drop]; omega
      have htk : l1.take i = l.take i := by rw [hl1e, List.take_append_of_le_length (by omega), List.take_take, Nat.min_eq_left (by omega)]
      have hdr : l1.drop (i + 1) = l.drop i := by rw [hl1e, List.drop_left' hti1]
      (repeat refine WF ?_); refine AWP.region ?_; (repeat (first | (refine AOps.gN ?_; first | refine AOps.p (W.slice_lo rfl rfl (by exact At.f) rfl (by omega)) rfl ?_ | refine AOps.s (W.copyO 1 rfl rfl (by exact At.f) (by exact At.f) (by rfl) (by omega) (by omega) (by omega) (by omega) (by exact Nat.le_refl _) hfr1 hfV hwV) rfl ?_) | refine WO ?_ | refine All.i fun X => ?_ | refine AllY.i fun Y => ?_))
      obtain ⟨l2, hl2⟩ : ∃ l2, l1.take (0 + i) ++ ([e].drop 0).take 1 ++ l1.drop (0 + i + 1) = l2 := ⟨_, rfl⟩
      rw [hl2]
      have hr : l2 = l.take i ++ e :: l.drop i := by
        rw [← hl2, Nat.zero_add, htk, hdr, List.append_assoc]; rfl
      have hm : n + 1 = l2.length := by
        rw [hr]; simp only [List.length_append, List.length_cons, List.length_drop, hti]; omega
      (repeat first | refine AOps.nil ?_ | refine WF ?_)
      (repeat (first | refine WK ?_ | refine All.i fun X => ?_ | refine AllY.i fun Y => ?_))
      (refine AWP.ret ?_; (repeat (first | refine inB_r ?_ | refine andThen_r ?_)); refine retQ_r ?_)
      rw [← hr]
      exact ⟨[.sl X 0 (n + 1)], [.lst true 30 4 l2], _, [], .cons (.tmp rfl) rfl .nil, .cons (.cell (.sl (p := 1) (.next .here) hm)) .nil, by exact Sub.f, rfl, rfl⟩
end Go.Proofs.Ytcfleoaldoebhaa

namespace Go.Proofs.Ytcfleoaldoebhaa
set_option linter.unusedVariables false
theorem evt_free (x : Evt) : FreeE (evtA x) := FreeE.agg fun y hy => by
  simp only [List.mem_cons, List.not_mem_nil, or_false] at hy
  rcases hy with rfl | rfl | rfl | rfl <;> exact FreeE.prim _
theorem evts_free (l : List Evt) : FreeL (l.map evtA) := fun x hx => by
  obtain ⟨y, _, rfl⟩ := List.mem_map.1 hx
  exact evt_free y
theorem last_sp (l : List Evt) (hl : l.length * 32 ≤ 140737488351232) : Spec Try.prog 40 [evtsA false l] [] fun r S' => ∃ b : List Evt, b.length ≤ l.length ∧ r = evtsA true b ∧ S' = [] := by
  refine Spec.of (nt := 32) (res := [.tmp 2]) Try.func40 rfl (by kernel_rfl) rfl rfl rfl fun Sf => ?_
  have hlm : (l.map evtA).length = l.length := List.length_map _
  (repeat refine WF ?_); refine AWP.region ?_; (repeat (first | refine WO ?_ | refine All.i fun X => ?_ | refine AllY.i fun Y => ?_)); refine AOps.nil ?_; (repeat refine WN ?_)
  (repeat refine WF ?_); refine AWP.region ?_; (repeat (first | refine WO ?_ | refine All.i fun X => ?_ | refine AllY.i fun Y => ?_)); refine AOps.nil ?_; (repeat refine WN ?_)
  refine AWP.adopt (d := 3) 30 4 rfl fun A => ?_
  (repeat (first | refine WK ?_ | refine All.i fun X => ?_ | refine AllY.i fun Y => ?_))
  refine AWP.lp5 (fun (i A a : Nat) (M : List AV) (L : List Evt) => ⟨[(3, .sl A 0 a), (8, evtsA false l), (9, iA (l.map evtA).length), (10, iA i)], (A, .row 30 4 M) :: Sf⟩) (fun i _ a M L => i ≤ l.length ∧ M = L.map evtA ∧ a = (L.map evtA).length ∧ a ≤ i) (fun i _ _ _ _ => l.length - i) 0 A 0 [] [] ⟨Nat.zero_le _, rfl, rfl, Nat.le_refl _⟩ ?_
  rintro i A a M L ⟨hi, rfl, ha, hal⟩
  (repeat (first | refine WK ?_ | refine All.i fun X => ?_ | refine AllY.i fun Y => ?_))
  refine AWP.cond rfl (fun hc => ?_) (fun hc => ?_)
  · have h : i < l.length := by rw [decide_eq_true_eq, hlm] at hc; omega
    obtain ⟨e, he⟩ : ∃ e, l[i] = e := ⟨_, rfl⟩
    have hat : (l.map evtA)[i]? = some (evtA e) := by rw [List.getElem?_map, List.getElem?_eq_getElem h, he]; rfl
    have haL : a = L.length := by rw [ha, List.length_map]
    have hsp := searchV_sp A a L (evtA e) e 62 [] (fun x => ordE x e) rfl rfl ha (by omega) (fun x _ => order_ps x e)
    (repeat refine WF ?_); refine AWP.region ?_; (repeat (first | refine WO ?_ | refine All.i fun V => ?_ | refine AllY.i fun Y => ?_)); refine AOps.nil ?_; (repeat refine WN ?_)
    refine AWP.iceP [5] .here (b := evtA e) (hf := ⟨rfl⟩) ?_ (by intro d hd; simp only [List.mem_singleton] at hd; subst hd; rfl)
    (repeat refine WF ?_); refine AWP.region ?_; (repeat (first | refine WO ?_ | refine All.i fun X => ?_ | refine AllY.i fun Y => ?_))
    refine AOps.eo3 (h := hsp) fun b hb => ?_
    obtain ⟨bi, bb⟩ := b
    dsimp only
    cases bb
    · have hbi : bi ≤ a := by have := hb.le; dsimp only at this; omega
      (repeat (first | refine WO ?_ | refine All.i fun X => ?_ | refine AllY.i fun Y => ?_))
      (repeat first | refine AOps.nil ?_ | refine WF ?_)
      (repeat refine WF ?_); refine AWP.region ?_; (repeat (first | refine WO ?_ | refine All.i fun X => ?_ | refine AllY.i fun Y => ?_)); refine AOps.nil ?_; (repeat refine WN ?_)
      refine AWP.cond_f rfl rfl ?_
      refine AWP.rs fun Y => AWP.rs fun K2 => ?_
      (repeat refine WF ?_); refine AWP.region ?_; (repeat (first | (refine AOps.gN ?_; first | refine AOps.s (W.lit1 (X := K2) (l := [evtA e]) (by exact rfl) (by exact At.f) (by exact rfl) (by exact .inl rfl) (by decide) (by decide) (by exact rfl)) rfl ?_) | refine WO ?_ | refine All.i fun X => ?_ | refine AllY.i fun Y => ?_))
      have hw2 : ∀ x ∈ L.map evtA, x.width = 4 := fun x hx => by obtain ⟨y, _, rfl⟩ := List.mem_map.1 hx; rfl
      have hins := (insertV_sp A K2 a bi (L.map evtA) (evtA e) ha hbi (by omega) (evts_free L) (evt_free _) hw2 rfl rfl).used2
      refine AOps.z3 (h := hins) (hT := .ls (Y := Y)) (k := ?_)
      (repeat (first | refine WO ?_ | refine All.i fun X => ?_ | refine AllY.i fun Y => ?_))
      obtain ⟨L2, hL2⟩ : ∃ L2, L.take bi ++ e :: L.drop bi = L2 := ⟨_, rfl⟩
      have hL2m : (L.map evtA).take bi ++ evtA e :: (L.map evtA).drop bi = L2.map evtA := by
        rw [← hL2, List.map_append, List.map_cons, List.map_take, List.map_drop]
      have hL2n : L2.length = a + 1 := by rw [← hL2]; simp only [List.length_append, List.length_take, List.length_cons, List.length_drop]; omega
      rw [hL2m]
      (repeat first | refine AOps.nil ?_ | refine WF ?_)
      (repeat (first | refine WK ?_ | refine All.i fun X => ?_ | refine AllY.i fun Y => ?_))
      refine lp_next5 (i + 1) Y (L2.map evtA).length (L2.map evtA) L2 ⟨h, rfl, rfl, by rw [List.length_map, hL2n]; omega⟩
    · obtain ⟨x, hx, hx0⟩ := hb.eq.1 rfl
      dsimp only at hx
      have hat2 : (L.map evtA)[bi]? = some (evtA x) := by rw [List.getElem?_map, hx]; rfl
      have hb2 : bi < a := by rw [ha]; exact (List.getElem?_eq_some_iff.1 hat2).1
      (repeat (first | refine WO ?_ | refine All.i fun X => ?_ | refine AllY.i fun Y => ?_))
      (repeat first | refine AOps.nil ?_ | refine WF ?_)
      (repeat refine WF ?_); refine AWP.region ?_; (repeat (first | refine WO ?_ | refine All.i fun X => ?_ | refine AllY.i fun Y => ?_)); refine AOps.nil ?_; (repeat refine WN ?_)
      refine AWP.cond_t rfl rfl ?_
      (repeat (first | refine WK ?_ | refine All.i fun X => ?_ | refine AllY.i fun Y => ?_))
      refine lp_next5 (i + 1) A a ((L.map evtA).set bi (evtA e)) (L.set bi e) ⟨h, by rw [List.map_set], by rw [ha, List.length_map, List.length_map, List.length_set], by omega⟩
  · have h : i = l.length := by rw [decide_eq_false_iff_not, hlm] at hc; omega
    subst h
    (repeat (first | refine WK ?_ | refine All.i fun X => ?_ | refine AllY.i fun Y => ?_))
    (refine AWP.ret ?_; (repeat (first | refine inB_r ?_ | refine andThen_r ?_)); refine retQ_r ?_)
    exact ⟨[.sl A 0 a], [evtsA true L], _, [], .cons (.tmp rfl) rfl .nil, .cons (.cell (.sl (p := 0) .here ha)) .nil, by exact Sub.f, L, by rw [ha, List.length_map] at hal; exact hal, rfl, rfl⟩
end Go.Proofs.Ytcfleoaldoebhaa

namespace Go.Proofs.Ytcfleoaldoebhaa
set_option linter.unusedVariables false
theorem below_ps (x n : Int) (hn : 1 ≤ n) (h2 : n ≤ 4611686018427387904) : PS Try.prog 19 [iA x, iA n] (iA (x % n)) := by
  refine Spec.of (nt := 14) (res := [.tmp 4]) Try.func19 rfl (by kernel_rfl) rfl rfl rfl fun Sf => ?_
  have h3 : x.tmod n < n := Int.tmod_lt_of_pos _ (by omega)
  have h4 : -n < x.tmod n := by
    have := Int.lt_tmod_of_pos x (b := n) (by omega)
    exact this
  have h5 : x.tmod n = x % n ∨ x.tmod n + n = x % n ∧ x.tmod n < 0 := by
    rw [Int.tmod_eq_emod]
    split
    · exact .inl (by simp)
    · have := Int.emod_nonneg x (b := n) (by omega)
      have := Int.emod_lt_of_pos x (b := n) (by omega)
      refine .inr ?_
      have : ((n.natAbs : Nat) : Int) = n := by omega
      omega
  have h6 := Int.emod_nonneg x (b := n) (by omega)
  (repeat (first | (refine AOps.gN ?_; first | refine AOps.p (W.rem rfl rfl (by omega)) rfl ?_) | refine WK ?_ | refine All.i fun X => ?_ | refine AllY.i fun Y => ?_))
  refine AWP.cond rfl (fun hb => ?_) (fun hb => ?_)
  · have hb : x.tmod n < 0 := by simpa using hb
    (repeat (first | refine WK ?_ | refine All.i fun X => ?_ | refine AllY.i fun Y => ?_))
    (refine AWP.ret ?_; (repeat (first | refine inB_r ?_ | refine andThen_r ?_)); refine retQ_r ?_)
    exact Ends.plain rfl rfl (by exact Sub.f) ⟨by rw [show x.tmod n + n = x % n from by omega], rfl⟩
  · have hb : ¬ x.tmod n < 0 := by simpa using hb
    (repeat (first | refine WK ?_ | refine All.i fun X => ?_ | refine AllY.i fun Y => ?_))
    (refine AWP.ret ?_; (repeat (first | refine inB_r ?_ | refine andThen_r ?_)); refine retQ_r ?_)
    exact Ends.plain rfl rfl (by exact Sub.f) ⟨by rw [show x.tmod n = x % n from by omega], rfl⟩
abbrev streamO (l : List Int) : AO := .row 93 1 [.agg [intsA false l]]
theorem next_po (X : Nat) (l : List Int) (n : Int) (h2 : n ≤ 4611686018427387904) : PO Try.prog 43 [.ptr X 0 0, iA n] X (streamO l) (iA (nextV l n)) (streamO (nextL l n)) := by
  refine Spec.of (nt := 33) (res := [.tmp 4]) Try.func43 rfl (by kernel_rfl) rfl rfl rfl fun Sf => ?_
  (repeat (first | refine WK ?_ | refine All.i fun X => ?_ | refine AllY.i fun Y => ?_))
  refine AWP.cond rfl (fun hb => ?_) (fun hb => ?_)
  · (repeat (first | refine WK ?_ | refine All.i fun X => ?_ | refine AllY.i fun Y => ?_))
    (refine AWP.ret ?_; (repeat (first | refine inB_r ?_ | refine andThen_r ?_)); refine retQ_r ?_)
    have hb : l.length = 0 ∨ n < 1 := by simp only [Bool.or_eq_true, decide_eq_true_eq, List.length_map] at hb; omega
    have e1 : nextV l n = 0 := by
      unfold nextV
      split
      · rfl
      · rcases hb with hb | hb
        · rw [List.length_eq_zero_iff.1 hb]
        · omega
    have e2 : nextL l n = l := by
      unfold nextL
      split
      · rfl
      · rcases hb with hb | hb
        · rw [List.length_eq_zero_iff.1 hb]; rfl
        · omega
    rw [e1, e2]
    exact Ends.plainS rfl rfl (by exact Sub.f) ⟨rfl, rfl⟩
  · have hb : l.length ≠ 0 ∧ 1 ≤ n := by simp only [Bool.or_eq_false_iff, decide_eq_false_iff_not, List.length_map] at hb; omega
    obtain ⟨hb, hn⟩ := hb
    cases l with
    | nil => exact absurd rfl hb
    | cons x l =>
    (repeat (first | (refine AOps.gN ?_; first | refine AOps.p (W.idxL rfl rfl (a := 0) rfl rfl) rfl ?_ | refine AOps.p (W.loL rfl rfl (a := 1) rfl (by simp)) rfl ?_ | refine AOps.p (W.call2 rfl rfl (below_ps _ _ hn h2) rfl) rfl ?_) | refine WK ?_ | refine All.i fun X => ?_ | refine AllY.i fun Y => ?_))
    (refine AWP.ret ?_; (repeat (first | refine inB_r ?_ | refine andThen_r ?_)); refine retQ_r ?_)
    rw [show nextV (x :: l) n = x % n from by unfold nextV; rw [if_neg (by omega)], show nextL (x :: l) n = l from by unfold nextL; rw [if_neg (by omega)]; rfl]
    exact Ends.plainS (S' := [(X, streamO l)]) rfl rfl (by exact Sub.f) ⟨rfl, rfl⟩
end Go.Proofs.Ytcfleoaldoebhaa

namespace Go.Proofs.Ytcfleoaldoebhaa
set_option linter.unusedVariables false
/-- The first i fields, kinds out of a stream, and the stream behind them. -/
def fAt : Nat → List Int → List Field × List Int
  | 0, l => ([], l)
  | i + 1, l => ((fAt i l).1 ++ [(genField i (fAt i l).2).1], (genField i (fAt i l).2).2)
def kAt : Nat → List Int → List Kind × List Int
  | 0, l => ([], l)
  | i + 1, l => ((kAt i l).1 ++ [(genKind i (kAt i l).2).1], (genKind i (kAt i l).2).2)
theorem fAt_len (i : Nat) (l : List Int) : (fAt i l).1.length = i := by
  induction i with
  | zero => rfl
  | succ i ih => simp [fAt, ih]
theorem kAt_len (i : Nat) (l : List Int) : (kAt i l).1.length = i := by
  induction i with
  | zero => rfl
  | succ i ih => simp [kAt, ih]
theorem fAt_gen (c i : Nat) (l : List Int) : ((fAt i l).1 ++ (genFields i c (fAt i l).2).1, (genFields i c (fAt i l).2).2) = fAt (i + c) l := by
  induction c generalizing i with
  | zero => simp [genFields]
  | succ c ih =>
    rw [show i + (c + 1) = (i + 1) + c from by omega, ← ih (i + 1)]
    simp [genFields, fAt]
theorem kAt_gen (c i : Nat) (l : List Int) : ((kAt i l).1 ++ (genKindsFrom i c (kAt i l).2).1, (genKindsFrom i c (kAt i l).2).2) = kAt (i + c) l := by
  induction c generalizing i with
  | zero => simp [genKindsFrom]
  | succ c ih =>
    rw [show i + (c + 1) = (i + 1) + c from by omega, ← ih (i + 1)]
    simp [genKindsFrom, kAt]
theorem genFields_at (c : Nat) (l : List Int) : genFields 0 c l = fAt c l := by
  have := fAt_gen c 0 l
  simpa [fAt] using this
theorem genKinds_at (l : List Int) : genKinds l = kAt (1 + nextV l 4).toNat (nextL l 4) := by
  have := kAt_gen (1 + nextV l 4).toNat 0 (nextL l 4)
  simpa [kAt, genKinds] using this
theorem knames_at {i : Nat} (h : i < 4) : [sA [115, 112, 111, 116], sA [108, 105, 102, 101], sA [116, 101, 97, 109], sA [103, 111, 97, 108]][i]? = some (sA (kindName i)) := by
  have : i = 0 ∨ i = 1 ∨ i = 2 ∨ i = 3 := by omega
  rcases this with rfl | rfl | rfl | rfl <;> rfl
theorem fnames_at {i : Nat} (h : i < 3) : [sA [120], sA [121], sA [122]][i]? = some (sA (fieldName i)) := by
  have : i = 0 ∨ i = 1 ∨ i = 2 := by omega
  rcases this with rfl | rfl | rfl <;> rfl
theorem kinds_po (G : Nat) (l : List Int) : PO Try.prog 42 [.ptr G 0 0] G (streamO l) (kindsA true false (genKinds l).1) (streamO (genKinds l).2) := by
  refine Spec.of (nt := 55) (res := [.tmp 2]) Try.func42 rfl (by kernel_rfl) rfl rfl rfl fun Sf => ?_
  have h0 := nextV_range l (n := 4) (by decide)
  (repeat (first | (refine AOps.gN ?_; first | (refine AOps.g_callf ?_; first | refine AOps.o2 (h := (next_po G _ _ (by decide))) (k := ?_))) | refine WK ?_ | refine All.i fun X => ?_ | refine AllY.i fun Y => ?_))

  refine AWP.adopt (d := 3) 51 2 rfl fun K => ?_
  obtain ⟨c, hc⟩ : ∃ c : Nat, 1 + nextV l 4 = c := ⟨(1 + nextV l 4).toNat, by omega⟩
  obtain ⟨l0, hl0⟩ : ∃ l0, nextL l 4 = l0 := ⟨_, rfl⟩
  have hg : genKinds l = kAt c l0 := by rw [genKinds_at, hl0, show (1 + nextV l 4).toNat = c from by omega]
  rw [hg, hl0, hc]
  have hc4 : 1 ≤ c ∧ c ≤ 4 := by omega
  clear hg hl0 hc h0
  refine AWP.lp4 (fun (i K : Nat) (M : List AV) (q : List Int) => ⟨[(0, .ptr G 0 0), (3, .sl K 0 i), (10, iA c), (11, iA i)], (K, .row 51 2 M) :: (G, streamO q) :: Sf⟩) (fun i _ M q => i ≤ c ∧ M = (kAt i l0).1.map (kindA false) ∧ M.length = i ∧ q = (kAt i l0).2) (fun i _ _ _ => c - i) 0 K [] l0 ⟨Nat.zero_le _, rfl, rfl, rfl⟩ ?_
  rintro i K M q ⟨hi, hM, hMl, hq⟩
  (repeat (first | refine WK ?_ | refine All.i fun X => ?_ | refine AllY.i fun Y => ?_))
  refine AWP.cond rfl (fun hb => ?_) (fun hb => ?_)
  · have h : i < c := by rw [decide_eq_true_eq] at hb; omega
    have h4 : i < 4 := by omega
    have h3 := nextV_range q (n := 3) (by decide)
    have hkn := knames_at h4
    (repeat (first | (refine AOps.gN ?_; first | (refine AOps.g_callf ?_; first | refine AOps.o2 (h := (next_po G _ _ (by decide))) (k := ?_))) | refine WK ?_ | refine All.i fun Y => ?_ | refine AllY.i fun Y => ?_))
    refine AWP.adoptIn (Y := Y) 62 3 .here (fun F => .cons (.agg (.cons .same (.cons (.base .nil) .nil))) .nil) fun F => ?_
    obtain ⟨l1, hl1⟩ : ∃ l1, nextL q 3 = l1 := ⟨_, rfl⟩
    obtain ⟨c1, hc1⟩ : ∃ c1 : Nat, 1 + nextV q 3 = c1 := ⟨(1 + nextV q 3).toNat, by omega⟩
    have hgk : kAt (i + 1) l0 = ((kAt i l0).1 ++ [⟨kindName i, (fAt c1 l1).1⟩], (fAt c1 l1).2) := by
      rw [kAt, ← hq, genKind, genFields_at, show (1 + nextV q 3).toNat = c1 from by omega, hl1]
    rw [hl1, hc1]
    have hc13 : c1 ≤ 3 := by omega
    refine AWP.lp4 (fun (j F : Nat) (L : List AV) (r : List Int) => ⟨[(0, .ptr G 0 0), (3, .sl K 0 i), (5, .ptr Y 0 0), (10, iA c), (11, iA i), (21, iA c1), (22, iA j)], (F, .row 62 3 L) :: (Y, .row 51 2 [.agg [sA (kindName i), .sl F 0 j]]) :: (K, .row 51 2 M) :: (G, streamO r) :: Sf⟩) (fun j _ L r => j ≤ c1 ∧ L = (fAt j l1).1.map fieldA ∧ L.length = j ∧ r = (fAt j l1).2) (fun j _ _ _ => c1 - j) 0 F [] l1 ⟨Nat.zero_le _, rfl, rfl, rfl⟩ ?_
    rintro j F L r ⟨hj, hL, hLl, hr⟩
    (repeat (first | refine WK ?_ | refine All.i fun X => ?_ | refine AllY.i fun Y => ?_))
    refine AWP.cond rfl (fun hd => ?_) (fun hd => ?_)
    · have hj' : j < c1 := by rw [decide_eq_true_eq] at hd; omega
      have h9 := nextV_range r (n := 9) (by decide)
      have h40 := nextV_range (nextL r 9) (n := 40) (by decide)
      have hfn := fnames_at (i := j) (by omega)
      (repeat (first | refine WK ?_ | refine All.i fun X => ?_ | refine AllY.i fun Y => ?_))
      refine AWP.rs fun X7 => ?_
      (repeat refine WF ?_); refine AWP.region_run (by kernel_rfl) (by kernel_rfl) ?_; (repeat (first | (refine RGo.gN ?_; first | (refine RGo.g_callf ?_; first | refine RGo.o2 (h := (next_po G _ _ (by decide))) (k := ?_))) | (refine RGo.gQ ?_; first | (refine RGo.g_callf ?_; first | refine RGo.o2 (h := (next_po G _ _ (by decide))) (k := ?_))) | refine RK ?_ | refine RGo.nil (by kernel_rfl) ?_))
      (repeat (first | (refine AOps.gN ?_; first | (refine AOps.g_callf ?_; first | refine AOps.o2 (h := (next_po G _ _ (by decide))) (k := ?_))) | refine WK ?_ | refine All.i fun X => ?_ | refine AllY.i fun Y => ?_))
      refine AWP.cond rfl (fun he => ?_) (fun he => ?_)
      · have he : nextV (nextL (nextL r 9) 40) 8 = 7 := by simpa using he
        have hg : genField j r = (⟨fieldName j, 32, -2147483648⟩, nextL (nextL (nextL r 9) 40) 8) := by rw [genField, if_pos he]
        (repeat (first | (refine AOps.gN ?_; first | (refine AOps.g_lit ?_; refine AOps.goL (fieldA ⟨fieldName j, 32, -2147483648⟩) ?_)) | refine WK ?_ | refine All.i fun X => ?_ | refine AllY.i fun Y => ?_))
        refine lp_next4 (j + 1) Y _ _ ⟨hj', ?_, ?_, ?_⟩
        · rw [fAt, ← hr, hg, hL, List.map_append]; rfl
        · rw [List.length_append, hLl]; rfl
        · rw [fAt, ← hr, hg]
      · have he : nextV (nextL (nextL r 9) 40) 8 ≠ 7 := by simpa using he
        have hg : genField j r = (⟨fieldName j, 1 + nextV r 9, nextV (nextL r 9) 40 - 30⟩, nextL (nextL (nextL r 9) 40) 8) := by rw [genField, if_neg he]
        (repeat (first | (refine AOps.gN ?_; first | (refine AOps.g_lit ?_; refine AOps.goL (fieldA ⟨fieldName j, 1 + nextV r 9, nextV (nextL r 9) 40 - 30⟩) ?_)) | refine WK ?_ | refine All.i fun X => ?_ | refine AllY.i fun Y => ?_))
        refine lp_next4 (j + 1) Y _ _ ⟨hj', ?_, ?_, ?_⟩
        · rw [fAt, ← hr, hg, hL, List.map_append]; rfl
        · rw [List.length_append, hLl]; rfl
        · rw [fAt, ← hr, hg]
    · have hj' : j = c1 := by rw [decide_eq_false_iff_not] at hd; omega
      subst hj'
      (repeat first | refine AOps.nil ?_ | refine WF ?_)
      refine AWP.iceIn (X := F) (Y := Y) .here (.next .here) rfl (.cons (.agg (.cons .same (.cons (.base (.sl (by omega))) .nil))) .nil) ?_
      have hF : AV.frzs ((L.drop 0).take j) = (fAt j l1).1.map fieldA := by
        rw [List.drop_zero, List.take_of_length_le (by omega), hL]
        exact Frzs.h
      rw [hF]
      (repeat (first | (refine AOps.gN ?_; first | (refine AOps.g_lit ?_; refine AOps.goL (kindA false ⟨kindName i, (fAt j l1).1⟩) ?_)) | refine WK ?_ | refine All.i fun X => ?_ | refine AllY.i fun Y => ?_))
      refine lp_next4 (i + 1) Y _ _ ⟨h, ?_, ?_, ?_⟩
      · rw [hgk, hM, List.map_append]; rfl
      · rw [List.length_append, hMl]; rfl
      · rw [hgk, hr]
  · have h : i = c := by rw [decide_eq_false_iff_not] at hb; omega
    subst h
    (repeat (first | refine WK ?_ | refine All.i fun X => ?_ | refine AllY.i fun Y => ?_))
    (refine AWP.ret ?_; (repeat (first | refine inB_r ?_ | refine andThen_r ?_)); refine retQ_r ?_)
    subst hM hq
    refine ⟨[.sl K 0 i], [.lst true 51 2 ((kAt i l0).1.map (kindA false))], _, [(G, streamO (kAt i l0).2)], .cons (.tmp rfl) rfl .nil, .cons (.cell (.sl (p := 0) .here (by rw [List.length_map, kAt_len]))) .nil, by exact Sub.f, rfl, rfl⟩
end Go.Proofs.Ytcfleoaldoebhaa

namespace Go.Proofs.Ytcfleoaldoebhaa
set_option linter.unusedVariables false
theorem vAt_len (fs : List Field) (l : List Int) (i : Nat) : (vAt fs l i).1.length ≤ i := by
  induction i with
  | zero => simp [vAt]
  | succ i ih => rw [vAt]; split <;> (try simp only [List.length_append, List.length_singleton]) <;> omega
theorem cAt_len (ks : List Kind) (l : List Int) (i : Nat) : (cAt ks l i).1.length ≤ i := by
  induction i with
  | zero => simp [cAt]
  | succ i ih => rw [cAt]; split <;> (try split) <;> (try simp only [List.length_append, List.length_singleton]) <;> omega
theorem vAt_next {fs : List Field} {l : List Int} {i : Nat} (h : i < fs.length) : vAt fs l (i + 1) = ((vAt fs l i).1 ++ [fs[i].low + nextV (vAt fs l i).2 (2 ^ fs[i].bits.toNat)], nextL (vAt fs l i).2 (2 ^ fs[i].bits.toNat)) := by
  rw [vAt, List.getElem?_eq_getElem h]
theorem cAt_no {ks : List Kind} {l : List Int} {i : Nat} (h : i < ks.length) (h2 : nextV (cAt ks l i).2 3 = 2) : cAt ks l (i + 1) = ((cAt ks l i).1, nextL (cAt ks l i).2 3) := by
  rw [cAt, List.getElem?_eq_getElem h]; simp only; rw [if_pos h2]
theorem cAt_yes {ks : List Kind} {l : List Int} {i : Nat} (h : i < ks.length) (h2 : nextV (cAt ks l i).2 3 ≠ 2) : cAt ks l (i + 1) = ((cAt ks l i).1 ++ [⟨i, (vAt ks[i].fields (nextL (cAt ks l i).2 3) ks[i].fields.length).1⟩], (vAt ks[i].fields (nextL (cAt ks l i).2 3) ks[i].fields.length).2) := by
  rw [cAt, List.getElem?_eq_getElem h]; simp only; rw [if_neg h2]
theorem pow_small {b : Nat} (h : b ≤ 32) : (1 : Int) ≤ 2 ^ b ∧ (2 : Int) ^ b ≤ 4294967296 := by
  have h1 : (2 : Nat) ^ b ≤ 2 ^ 32 := Nat.pow_le_pow_right (by decide) h
  have h2 : 0 < (2 : Nat) ^ b := Nat.pow_pos (by decide)
  have h3 : ((2 : Int) ^ b) = (((2 : Nat) ^ b : Nat) : Int) := by simp
  rw [h3]
  have : (2 : Nat) ^ 32 = 4294967296 := by decide
  omega
theorem comps_po (G : Nat) (ks : List Kind) (l : List Int) (hk : KindsOK ks) : PO Try.prog 44 [kindsA false false ks, .ptr G 0 0] G (streamO l) (compsA true false (genComps ks l).1) (streamO (genComps ks l).2) := by
  refine Spec.of (nt := 50) (res := [.tmp 4]) Try.func44 rfl (by kernel_rfl) rfl rfl rfl fun Sf => ?_
  obtain ⟨hk0, hk1⟩ := hk
  (repeat refine WF ?_); refine AWP.region ?_; (repeat (first | refine WO ?_ | refine All.i fun X => ?_ | refine AllY.i fun Y => ?_)); refine AOps.nil ?_; (repeat refine WN ?_)
  (repeat refine WF ?_); refine AWP.region ?_; (repeat (first | refine WO ?_ | refine All.i fun X => ?_ | refine AllY.i fun Y => ?_)); refine AOps.nil ?_; (repeat refine WN ?_)
  (repeat refine WF ?_); refine AWP.region ?_; (repeat (first | refine WO ?_ | refine All.i fun X => ?_ | refine AllY.i fun Y => ?_)); refine AOps.nil ?_; (repeat refine WN ?_)
  (repeat first | refine AOps.nil ?_ | refine WF ?_)
  refine AWP.adopt (d := 5) 58 2 rfl fun K => ?_
  refine AWP.lp5 (fun (i K : Nat) (M : List AV) (n : Nat) (q : List Int) => ⟨[(1, .ptr G 0 0), (5, .sl K 0 n), (11, kindsA false false ks), (12, iA (ks.map (kindA false)).length), (13, iA i)], (K, .row 58 2 M) :: (G, streamO q) :: Sf⟩) (fun i _ M n q => i ≤ ks.length ∧ M = (cAt ks l i).1.map (compA false) ∧ n = M.length ∧ q = (cAt ks l i).2) (fun i _ _ _ _ => ks.length - i) 0 K [] 0 l ⟨Nat.zero_le _, rfl, rfl, rfl⟩ ?_
  rintro i K M n q ⟨hi, hM, hn, hq⟩
  (repeat (first | refine WK ?_ | refine All.i fun X => ?_ | refine AllY.i fun Y => ?_))
  refine AWP.cond rfl (fun hc => ?_) (fun hc => ?_)
  · have h : i < ks.length := by simpa using hc
    obtain ⟨hf0, hf1⟩ := hk1 _ (List.getElem_mem h)
    have h3 := nextV_range q (n := 3) (by decide)
    have hn1 : n + 1 ≤ 1099511627776 := by have := cAt_len ks l i; rw [hn, hM, List.length_map]; omega
    (repeat (first | (refine AOps.gN ?_; first | (refine AOps.g_callf ?_; first | refine AOps.o2 (h := (next_po G _ _ (by decide))) (k := ?_))) | refine WK ?_ | refine All.i fun X => ?_ | refine AllY.i fun Y => ?_))
    refine AWP.cond rfl (fun he => ?_) (fun he => ?_)
    · have he : nextV q 3 = 2 := by simpa using he
      (repeat (first | refine WK ?_ | refine All.i fun X => ?_ | refine AllY.i fun Y => ?_))
      refine lp_next5 (i + 1) K M n _ ⟨h, ?_, hn, ?_⟩
      · rw [cAt_no h (hq ▸ he), hM]
      · rw [cAt_no h (hq ▸ he), hq]
    · have he : nextV q 3 ≠ 2 := by simpa using he
      (repeat refine WF ?_); refine AWP.region ?_; (repeat (first | refine WO ?_ | refine All.i fun Y => ?_ | refine AllY.i fun Y => ?_)); refine AOps.nil ?_; (repeat refine WN ?_)
      refine AWP.adoptIn (Y := Y) 3 1 .here (fun F => .cons (.agg (.cons .same (.cons (.base .nil) .nil))) .nil) fun F => ?_
      (repeat (first | refine WK ?_ | refine All.i fun X => ?_ | refine AllY.i fun Y => ?_))
      obtain ⟨fs, hfs⟩ : ∃ fs, ks[i].fields = fs := ⟨_, rfl⟩
      obtain ⟨q1, hq1⟩ : ∃ q1, nextL q 3 = q1 := ⟨_, rfl⟩
      rw [hq1, hfs]
      have hck : cAt ks l (i + 1) = ((cAt ks l i).1 ++ [⟨i, (vAt fs q1 fs.length).1⟩], (vAt fs q1 fs.length).2) := by rw [cAt_yes h (hq ▸ he), ← hq, hq1, hfs]
      rw [hfs] at hf0 hf1
      refine AWP.lp5 (fun (j F : Nat) (L : List AV) (m : Nat) (r : List Int) => ⟨[(1, .ptr G 0 0), (5, .sl K 0 n), (6, iA i), (8, .ptr Y 0 0), (11, kindsA false false ks), (12, iA (ks.map (kindA false)).length), (13, iA i), (24, fieldsA false fs), (25, iA (fs.map fieldA).length), (26, iA j)], (F, .row 3 1 L) :: (Y, .row 58 2 [.agg [iA i, .sl F 0 m]]) :: (K, .row 58 2 M) :: (G, streamO r) :: Sf⟩) (fun j _ L m r => j ≤ fs.length ∧ L = (vAt fs q1 j).1.map iA ∧ m = L.length ∧ r = (vAt fs q1 j).2) (fun j _ _ _ _ => fs.length - j) 0 F [] 0 q1 ⟨Nat.zero_le _, rfl, rfl, rfl⟩ ?_
      rintro j F L m r ⟨hj, hL, hm, hr⟩
      (repeat (first | refine WK ?_ | refine All.i fun X => ?_ | refine AllY.i fun Y => ?_))
      refine AWP.cond rfl (fun hd => ?_) (fun hd => ?_)
      · have hj' : j < fs.length := by simpa using hd
        obtain ⟨hb0, hb1, hl0, hl1⟩ := hf1 _ (List.getElem_mem hj')
        obtain ⟨b, hb⟩ : ∃ b : Nat, fs[j].bits = b := ⟨fs[j].bits.toNat, by omega⟩
        have hp := pow_small (b := b) (by omega)
        have hw : IntKind.i64.wrap (1 * 2 ^ b) = 2 ^ b := by rw [Int.one_mul]; exact wrap_id (by omega) (by omega)
        have hv := nextV_range r (n := IntKind.i64.wrap (1 * 2 ^ b)) (by omega)
        have hm1 : m + 1 ≤ 1099511627776 := by have := vAt_len fs q1 j; rw [hm, hL, List.length_map]; omega
        (repeat (first | refine WK ?_ | refine All.i fun Z => ?_ | refine AllY.i fun Y => ?_))
        refine AWP.rs fun X7 => ?_
        (repeat refine WF ?_); refine AWP.region_run (by kernel_rfl) (by kernel_rfl) ?_; (repeat (first | (refine RGo.gN ?_; first | (refine RGo.g_callf ?_; first | refine RGo.o2 (h := (next_po G _ _ (by rw [hw]; omega))) (k := ?_)) | refine RGo.p (W.shl rfl rfl hb (by show b ≤ 64; omega)) rfl ?_ | refine RGo.p (W.add rfl rfl (by omega)) rfl ?_) | (refine RGo.gQ ?_; first | (refine RGo.g_callf ?_; first | refine RGo.o2 (h := (next_po G _ _ (by rw [hw]; omega))) (k := ?_)) | refine RGo.p (W.shl rfl rfl hb (by show b ≤ 64; omega)) rfl ?_ | refine RGo.p (W.add rfl rfl (by omega)) rfl ?_) | refine RK ?_ | refine RGo.nil (by kernel_rfl) ?_))
        (repeat (first | refine WK ?_ | refine All.i fun X => ?_ | refine AllY.i fun Y => ?_))
        have hva : vAt fs q1 (j + 1) = ((vAt fs q1 j).1 ++ [fs[j].low + nextV r (IntKind.i64.wrap (1 * 2 ^ b))], nextL r (IntKind.i64.wrap (1 * 2 ^ b))) := by rw [vAt_next hj', ← hr, hw, hb]; rfl
        refine lp_next5 (j + 1) X7 _ _ _ ⟨hj', ?_, ?_, ?_⟩
        · rw [hva, hL, List.map_append]; rfl
        · rw [List.length_append, hm]
        · rw [hva]
      · have hj' : j = fs.length := by rw [decide_eq_false_iff_not, List.length_map] at hd; omega
        subst hj'
        (repeat first | refine AOps.nil ?_ | refine WF ?_)
        refine AWP.iceIn (X := F) (Y := Y) .here (.next .here) rfl (.cons (.agg (.cons .same (.cons (.base (.sl (by omega))) .nil))) .nil) ?_
        have hF : AV.frzs ((L.drop 0).take m) = (vAt fs q1 fs.length).1.map iA := by
          rw [List.drop_zero, List.take_of_length_le (by omega), hL]
          exact Frzs.h
        rw [hF]
        (repeat (first | (refine AOps.gN ?_; first | (refine AOps.g_lit ?_; refine AOps.goL (compA false ⟨i, (vAt fs q1 fs.length).1⟩) ?_)) | refine WK ?_ | refine All.i fun X => ?_ | refine AllY.i fun Y => ?_))
        refine lp_next5 (i + 1) Y _ _ _ ⟨h, ?_, ?_, ?_⟩
        · rw [hck, hM, List.map_append]; rfl
        · rw [List.length_append, hn]
        · rw [hck, hr]
  · have h : i = ks.length := by rw [decide_eq_false_iff_not, List.length_map] at hc; omega
    subst h
    (repeat (first | refine WK ?_ | refine All.i fun X => ?_ | refine AllY.i fun Y => ?_))
    (refine AWP.ret ?_; (repeat (first | refine inB_r ?_ | refine andThen_r ?_)); refine retQ_r ?_)
    subst hM hq
    exact ⟨[.sl K 0 n], [.lst true 58 2 ((cAt ks l ks.length).1.map (compA false))], _, [(G, streamO (cAt ks l ks.length).2)], .cons (.tmp rfl) rfl .nil, .cons (.cell (.sl (p := 0) .here hn)) .nil, by exact Sub.f, rfl, rfl⟩
theorem wAt_len1 (ks : List Kind) (l : List Int) (i : Nat) : (wAt ks l i).1.length = i := by
  induction i with
  | zero => rfl
  | succ i ih => rw [wAt]; split <;> simp [ih]
theorem wAt_len2 (ks : List Kind) (l : List Int) (i : Nat) : (wAt ks l i).2.1.length ≤ i := by
  induction i with
  | zero => simp [wAt]
  | succ i ih => rw [wAt]; split <;> (try simp only [List.length_append, List.length_singleton]) <;> omega
/-- A made world: its lists of generations and items are its own. -/
def wdO (w : Wd) : AV := .agg [kindsA false false w.kinds, intsA true w.gens, itemsA true false w.items]
instance {w : Wd} : Frz (wdO w) (wdA false w) := ⟨by unfold wdO wdA; exact Frz.h⟩
theorem genField_rng (i : Nat) (l : List Int) : FieldOK (genField i l).1 := by
  have h9 := nextV_range l (n := 9) (by decide)
  have h40 := nextV_range (nextL l 9) (n := 40) (by decide)
  unfold genField
  split <;> refine ⟨?_, ?_, ?_, ?_⟩ <;> simp <;> omega
theorem fAt_rng (i : Nat) (l : List Int) : ∀ f ∈ (fAt i l).1, FieldOK f := by
  induction i with
  | zero => intro f hf; cases hf
  | succ i ih =>
    intro f hf
    rcases List.mem_append.1 hf with hf | hf
    · exact ih f hf
    · rw [List.mem_singleton.1 hf]; exact genField_rng _ _
theorem genKind_rng (k : Nat) (l : List Int) : (genKind k l).1.fields.length ≤ 3 ∧ ∀ f ∈ (genKind k l).1.fields, FieldOK f := by
  have h := nextV_range l (n := 3) (by decide)
  show (genFields 0 (1 + nextV l 3).toNat (nextL l 3)).1.length ≤ 3 ∧ ∀ f ∈ (genFields 0 (1 + nextV l 3).toNat (nextL l 3)).1, FieldOK f
  rw [genFields_at]
  exact ⟨by rw [fAt_len]; omega, fAt_rng _ _⟩
theorem kAt_rng (i : Nat) (l : List Int) : ∀ k ∈ (kAt i l).1, k.fields.length ≤ 3 ∧ ∀ f ∈ k.fields, FieldOK f := by
  induction i with
  | zero => intro f hf; cases hf
  | succ i ih =>
    intro f hf
    rcases List.mem_append.1 hf with hf | hf
    · exact ih f hf
    · rw [List.mem_singleton.1 hf]; exact genKind_rng _ _
theorem genKinds_cnt (l : List Int) : (genKinds l).1.length = (1 + nextV l 4).toNat := by rw [genKinds_at, kAt_len]
theorem genKinds_rng (l : List Int) : KindsOK (genKinds l).1 := by
  have h := nextV_range l (n := 4) (by decide)
  refine ⟨by rw [genKinds_cnt]; omega, ?_⟩
  rw [genKinds_at]
  intro k hk
  have := kAt_rng _ _ k hk
  exact ⟨by omega, this.2⟩
theorem world_ps (l : List Int) : PS Try.prog 16 [intsA false l] (wdO (genWorld l)) := by
  refine Spec.of (nt := 52) (res := [.cell 2 39]) Try.func16 rfl (by kernel_rfl) rfl rfl rfl fun Sf => ?_
  have hko := genKinds_rng l
  obtain ⟨ks, hks⟩ : ∃ ks, (genKinds l).1 = ks := ⟨_, rfl⟩
  obtain ⟨l1, hl1⟩ : ∃ l1, (genKinds l).2 = l1 := ⟨_, rfl⟩
  have h12 := nextV_range l1 (n := 12) (by decide)
  obtain ⟨c, hc⟩ : ∃ c : Nat, nextV l1 12 = c := ⟨(nextV l1 12).toNat, by omega⟩
  obtain ⟨l2, hl2⟩ : ∃ l2, nextL l1 12 = l2 := ⟨_, rfl⟩
  have hg : genWorld l = ⟨ks, (wAt ks l2 c).1, (wAt ks l2 c).2.1⟩ := by unfold genWorld; rw [hks, hl1, hl2, hc]; rfl
  have hkp := fun G => kinds_po G l
  rw [hks, hl1] at hkp
  rw [hks] at hko
  rw [hg]
  clear hg hks hl1
  (repeat refine WF ?_); refine AWP.region ?_; (repeat (first | refine WO ?_ | refine All.i fun R => ?_ | refine AllY.i fun Y => ?_)); refine AOps.nil ?_; (repeat refine WN ?_)
  (repeat refine WF ?_); refine AWP.region ?_; (repeat (first | refine WO ?_ | refine All.i fun G => ?_ | refine AllY.i fun Y => ?_)); refine AOps.nil ?_; (repeat refine WN ?_)
  (repeat refine WF ?_); refine AWP.region ?_; (repeat (first | (refine AOps.gN ?_; first | (refine AOps.g_callf ?_; first | refine AOps.o1 (h := (hkp G)) (k := ?_))) | refine WO ?_ | refine All.i fun V => ?_ | refine AllY.i fun Y => ?_)); refine AOps.nil ?_; (repeat refine WN ?_)
  (repeat refine WF ?_); refine AWP.region ?_; (repeat (first | (refine AOps.gN ?_; first | (refine AOps.g_callf ?_; first | refine AOps.o2 (h := (next_po G _ _ (by decide))) (k := ?_))) | refine WO ?_ | refine All.i fun X => ?_ | refine AllY.i fun Y => ?_)); refine AOps.nil ?_; (repeat refine WN ?_)
  rw [hl2, hc]
  refine AWP.adoptIn (Y := V) 98 3 (by exact At.f) (fun F => .cons (.agg (.cons .same (.cons .same (.cons (.base .nil) .nil)))) .nil) fun B => ?_
  refine AWP.adoptIn (Y := V) 3 1 (by exact At.f) (fun F => .cons (.agg (.cons .same (.cons (.base .nil) (.cons .same .nil)))) .nil) fun A => ?_
  (repeat first | refine AOps.nil ?_ | refine WF ?_)
  refine AWP.lp7 (fun (i A B : Nat) (L M : List AV) (n : Nat) (q : List Int) => ⟨[(2, .ptr R 0 0), (3, .ptr G 0 0), (4, .ptr V 0 0), (13, iA c), (14, iA i)], (A, .row 3 1 L) :: (B, .row 98 3 M) :: (V, .row 39 3 [.agg [kindsA false false ks, .sl A 0 i, .sl B 0 n]]) :: (G, streamO q) :: (R, .row 39 3 [.agg [.prim (.slice none 0 0), .prim (.slice none 0 0), .prim (.slice none 0 0)]]) :: Sf⟩) (fun i _ _ L M n q => i ≤ c ∧ L = (wAt ks l2 i).1.map iA ∧ M = (wAt ks l2 i).2.1.map (itemA false) ∧ n = M.length ∧ q = (wAt ks l2 i).2.2) (fun i _ _ _ _ _ _ => c - i) 0 A B [] [] 0 l2 ⟨Nat.zero_le _, rfl, rfl, rfl, rfl⟩ ?_
  rintro i A B L M n q ⟨hi, hL, hM, hn, hq⟩
  have hA := wAt_len1 ks l2 i
  have hB := wAt_len2 ks l2 i
  (repeat (first | refine WK ?_ | refine All.i fun X => ?_ | refine AllY.i fun Y => ?_))
  refine AWP.cond rfl (fun hd => ?_) (fun hd => ?_)
  · have h : i < c := by rw [decide_eq_true_eq] at hd; omega
    have h3 := nextV_range q (n := 3) (by decide)
    have h4 := nextV_range (nextL q 3) (n := 4) (by decide)
    (repeat refine WF ?_); refine AWP.region ?_; (repeat (first | refine WO ?_ | refine All.i fun X => ?_ | refine AllY.i fun Y => ?_)); refine AOps.nil ?_; (repeat refine WN ?_)
    refine AWP.rs fun X7 => ?_
    (repeat refine WF ?_); refine AWP.region_run (by kernel_rfl) (by kernel_rfl) ?_; (repeat (first | (refine RGo.gN ?_; first | (refine RGo.g_callf ?_; first | refine RGo.o2 (h := (next_po G _ _ (by decide))) (k := ?_))) | (refine RGo.gQ ?_; first | (refine RGo.g_callf ?_; first | refine RGo.o2 (h := (next_po G _ _ (by decide))) (k := ?_))) | refine RK ?_ | refine RGo.nil (by kernel_rfl) ?_))
    (repeat (first | (refine AOps.gN ?_; first | (refine AOps.g_callf ?_; first | refine AOps.o2 (h := (next_po G _ _ (by decide))) (k := ?_))) | refine WK ?_ | refine All.i fun X => ?_ | refine AllY.i fun Y => ?_))
    have hLl : L.length = i := by rw [hL, List.length_map, hA]
    obtain ⟨IT, hIT⟩ : ∃ IT, (wAt ks l2 i).2.1 = IT := ⟨_, rfl⟩
    rw [hIT] at hM hB
    have hnl : n = IT.length := by rw [hn, hM, List.length_map]
    have hat : (L ++ [.prim (.int .i64 (nextV q 3))])[i]? = some (.prim (.int .i64 (nextV q 3))) := by rw [← hLl]; simp
    refine AWP.cond rfl (fun he => ?_) (fun he => ?_)
    · have he : nextV (nextL q 3) 4 = 3 ∨ n = 8 := by rw [Bool.or_eq_true, decide_eq_true_eq, decide_eq_true_eq] at he; omega
      have hw : wAt ks l2 (i + 1) = ((wAt ks l2 i).1 ++ [nextV q 3], IT, nextL (nextL q 3) 4) := by rw [wAt, ← hq, hIT, ← hnl, if_pos he]
      (repeat (first | refine WK ?_ | refine All.i fun X => ?_ | refine AllY.i fun Y => ?_))
      refine lp_next7 (i + 1) X7 B _ M n _ ⟨h, ?_, ?_, hn, ?_⟩
      · rw [hw, hL, List.map_append]; rfl
      · rw [hw, hM]
      · rw [hw]
    · have he : ¬ (nextV (nextL q 3) 4 = 3 ∨ n = 8) := by rw [Bool.or_eq_false_iff, decide_eq_false_iff_not, decide_eq_false_iff_not] at he; omega
      have hw : wAt ks l2 (i + 1) = ((wAt ks l2 i).1 ++ [nextV q 3], IT ++ [⟨⟨i, nextV q 3⟩, (genComps ks (nextL (nextL q 3) 4)).1⟩], (genComps ks (nextL (nextL q 3) 4)).2) := by rw [wAt, ← hq, hIT, ← hnl, if_neg he]
      have hin : i < i + [AV.prim (.int .i64 (nextV q 3))].length := Nat.lt_succ_self i
      refine AWP.rs fun X8 => ?_
      (repeat refine WF ?_); refine AWP.region_run (by kernel_rfl) (by kernel_rfl) ?_; (repeat (first | (refine RGo.gN ?_; first | (refine RGo.g_callf ?_; first | refine RGo.o2 (h := (comps_po G ks _ hko)) (k := ?_)) | (refine RGo.g_lit ?_; refine RGo.goL (itemA false ⟨⟨i, nextV q 3⟩, (genComps ks (nextL (nextL q 3) 4)).1⟩) ?_)) | (refine RGo.gQ ?_; first | (refine RGo.g_callf ?_; first | refine RGo.o2 (h := (comps_po G ks _ hko)) (k := ?_)) | (refine RGo.g_lit ?_; refine RGo.goL (itemA false ⟨⟨i, nextV q 3⟩, (genComps ks (nextL (nextL q 3) 4)).1⟩) ?_)) | refine RK ?_ | refine RGo.nil (by kernel_rfl) ?_))
      (repeat (first | refine WK ?_ | refine All.i fun X => ?_ | refine AllY.i fun Y => ?_))
      refine lp_next7 (i + 1) X7 X8 _ _ _ _ ⟨h, ?_, ?_, ?_, ?_⟩
      · rw [hw, hL, List.map_append]; rfl
      · rw [hw, hM, List.map_append]; rfl
      · rw [List.length_append, hn]
      · rw [hw]
  · have h : i = c := by rw [decide_eq_false_iff_not] at hd; omega
    subst h
    (repeat (first | refine WK ?_ | refine All.i fun X => ?_ | refine AllY.i fun Y => ?_))
    (refine AWP.ret ?_; (repeat (first | refine inB_r ?_ | refine andThen_r ?_)); refine retQ_r ?_)
    subst hL hM
    have hA : i = ((wAt ks l2 i).1.map iA).length := by rw [List.length_map, hA]
    exact ⟨[.agg [kindsA false false ks, .sl A 0 i, .sl B 0 n]], [wdO ⟨ks, (wAt ks l2 i).1, (wAt ks l2 i).2.1⟩], _, [], .cons (.cell (p := 4) rfl (by exact At.f) TAg.h TSize.h rfl rfl) rfl .nil, .cons (.agg (.cons .same (.cons (.sl (p := 0) .here hA) (.cons (.sl (p := 0) .here hn) .nil)))) .nil, by exact Sub.f, rfl, rfl⟩
end Go.Proofs.Ytcfleoaldoebhaa

namespace Go.Proofs.Ytcfleoaldoebhaa
set_option linter.unusedVariables false
theorem cAt_mem {ks : List Kind} {l : List Int} {i : Nat} {c : Comp} (h : c ∈ (cAt ks l i).1) : ∃ (j : Nat) (hj : j < ks.length) (q : List Int), j < i ∧ c = ⟨j, (vAt ks[j].fields q ks[j].fields.length).1⟩ := by
  induction i with
  | zero => cases h
  | succ i ih =>
    by_cases hi : i < ks.length
    · by_cases h2 : nextV (cAt ks l i).2 3 = 2
      · rw [cAt_no hi h2] at h
        obtain ⟨j, hj, q, h3, h4⟩ := ih h
        exact ⟨j, hj, q, by omega, h4⟩
      · rw [cAt_yes hi h2] at h
        rcases List.mem_append.1 h with h | h
        · obtain ⟨j, hj, q, h3, h4⟩ := ih h
          exact ⟨j, hj, q, by omega, h4⟩
        · rw [List.mem_singleton.1 h]
          exact ⟨i, hi, _, by omega, rfl⟩
    · rw [cAt, List.getElem?_eq_none (by omega)] at h
      obtain ⟨j, hj, q, h3, h4⟩ := ih h
      exact ⟨j, hj, q, by omega, h4⟩
theorem wAt_mem {ks : List Kind} {l : List Int} {i : Nat} {it : Item} (h : it ∈ (wAt ks l i).2.1) : ∃ (j : Nat) (q : List Int), j < i ∧ (wAt ks l i).1[j]? = some it.ent.gen ∧ it.ent.n = j ∧ it.comps = (genComps ks q).1 := by
  induction i with
  | zero => cases h
  | succ i ih =>
    have hl := wAt_len1 ks l i
    have hup : ∀ (x : Int) (g : Int) (j : Nat), (wAt ks l i).1[j]? = some g → ((wAt ks l i).1 ++ [x])[j]? = some g := fun x g j hg => by
      rw [List.getElem?_append_left (List.getElem?_eq_some_iff.1 hg).1, hg]
    rw [wAt] at h ⊢
    split
    · rename_i hs
      rw [if_pos hs] at h
      obtain ⟨j, q, h1, h2, h3, h4⟩ := ih h
      exact ⟨j, q, by omega, hup _ _ _ h2, h3, h4⟩
    · rename_i hs
      rw [if_neg hs] at h
      rcases List.mem_append.1 h with h | h
      · obtain ⟨j, q, h1, h2, h3, h4⟩ := ih h
        exact ⟨j, q, by omega, hup _ _ _ h2, h3, h4⟩
      · rw [List.mem_singleton.1 h]
        exact ⟨i, _, by omega, by rw [List.getElem?_append_right (by omega), hl]; simp, rfl, rfl⟩
theorem genKinds_small (l : List Int) : (genKinds l).1.length ≤ 4 ∧ ∀ k ∈ (genKinds l).1, k.fields.length ≤ 3 := by
  have h := nextV_range l (n := 4) (by decide)
  refine ⟨by rw [genKinds_cnt]; omega, ?_⟩
  rw [genKinds_at]
  intro k hk
  exact (kAt_rng _ _ k hk).1
theorem genWorld_small (l : List Int) : (genWorld l).items.length ≤ 12 ∧ (genWorld l).gens.length ≤ 12 ∧ ∀ it ∈ (genWorld l).items, it.comps.length ≤ 4 ∧ ∀ c ∈ it.comps, c.vals.length ≤ 3 := by
  have h := nextV_range (genKinds l).2 (n := 12) (by decide)
  have h1 := wAt_len2 (genKinds l).1 (nextL (genKinds l).2 12) (nextV (genKinds l).2 12).toNat
  have h2 := wAt_len1 (genKinds l).1 (nextL (genKinds l).2 12) (nextV (genKinds l).2 12).toNat
  obtain ⟨h3, h4⟩ := genKinds_small l
  refine ⟨Nat.le_trans h1 (by omega), Nat.le_trans (Nat.le_of_eq h2) (by omega), fun it hit => ?_⟩
  obtain ⟨j, q, _, _, _, hc⟩ := wAt_mem hit
  rw [hc]
  refine ⟨Nat.le_trans (cAt_len _ _ _) h3, fun c hcm => ?_⟩
  obtain ⟨j, hj, q, _, rfl⟩ := cAt_mem hcm
  exact Nat.le_trans (vAt_len _ _ _) (h4 _ (List.getElem_mem hj))
end Go.Proofs.Ytcfleoaldoebhaa

namespace Go.Proofs.Ytcfleoaldoebhaa
set_option linter.unusedVariables false
open Go.RowKit
def baseM (w : World) : Mem := ⟨fun _ => none, fun _ => False, w, fun b => b < w.heap.size⟩
theorem baseM_good (w : World) : Good (baseM w) (baseM w) 0 [] [] :=
  ⟨fun z hz => (by cases hz), .nil, fun b hb => (by cases hb), fun b h => h, .nil, fun x hx => (by cases hx), fun x h => h.elim, .refl _, rfl, rfl, rfl, Nat.le_refl _⟩
theorem Good.bel {w : World} {m' : Mem} {N : Nat} {Z : Zs} {br : List Nat} (G : Good (baseM w) m' N Z br) : Below w.heap.size w m'.w :=
  ⟨G.os, G.tape, G.output, G.size, fun k hk => (G.le.F k hk).2⟩
theorem PS.calls_bool {P : Program} {f : FuncId} {args : List AV} {b : Bool} (h : PS P f args (bA b)) {w : World} {vals : Array Value} (hv : VTs (baseM w) args vals.toList []) :
    Calls P f vals w fun e w' => e = .returned (.bool b) ∧ Below w.heap.size w w' :=
  (h.run [] (baseM w) 0 [] vals rfl (baseM_good w) hv).mono fun e w' ⟨v, r, S', m', N', Z', br, h1, h2, h3, G, h4, h5, h6⟩ => by
    subst h1 h2 h5
    refine ⟨?_, G.bel⟩
    obtain ⟨⟨h7, _⟩, _⟩ := h4
    injection h7 with h7
    rw [h7]
theorem cells_vcs {α : Type} {m : Mem} {C : List Value → α → Prop} {sz : Nat} {f : α → AV} (hC : ∀ c x, C c x → VC m (f x) c []) : ∀ {l : List α} {xs : List Value}, Cells C sz xs l → VCs m (l.map f) xs []
  | [], _, h => ⟨h, rfl⟩
  | x :: l, _, ⟨c, ys, h1, h2, h3, h4⟩ => ⟨c, ys, [], [], h1, rfl, hC c x h3, cells_vcs hC h4⟩
theorem cell_block {w : World} {b o : Nat} {u : Value} (h : w.cell? ⟨b, o, none⟩ = some u) : ∃ arr t r, w.heap[b]? = some (.cells arr t r) ∧ arr[o]? = some u := by
  unfold World.cell? at h
  cases hb : w.heap[b]? with
  | none => simp only [hb] at h; cases h
  | some blk =>
    cases blk with
    | cells c t r => simp only [hb] at h; exact ⟨c, t, r, rfl, by simpa using h⟩
    | _ => simp only [hb] at h; cases h
theorem sl_vc {α : Type} {w : World} {C : World → Reg → List Value → α → Prop} {sz : Nat} {f : α → AV} {t : TypeId} {v : Value} {l : List α} (hsz : 0 < sz) (hC : ∀ c x, C w (Lt w) c x → VC (baseM w) (f x) c []) (hw : ∀ x, (f x).width = sz) (h : Sl w (Lt w) sz C v l) : VC (baseM w) (.lst false t sz (l.map f)) [v] [] := by
  obtain ⟨xs, ⟨h1, A, cap, rfl, hn, hr⟩, hc⟩ := h
  refine ⟨rfl, A, cap, by simp, by simpa using hn, fun e he => by obtain ⟨x, _, rfl⟩ := List.mem_map.1 he; exact hw x, fun h0 => ?_⟩
  have h0 : 0 < l.length := by simpa using h0
  obtain ⟨b, off, rfl, hb, hcell⟩ := hr h0
  have hx : 0 < xs.length := by rw [h1]; exact Nat.mul_pos h0 hsz
  obtain ⟨arr, t', r, h2, h3⟩ := cell_block (hcell 0 xs[0] (by simp))
  refine ⟨b, off, arr, t', r, rfl, hb, h2, ?_⟩
  have e : (arr.toList.drop off).take ((l.map f).length * sz) = xs := by
    apply List.ext_getElem?
    intro j
    rw [List.getElem?_take]
    split
    · rename_i hj
      have hj : j < xs.length := by rw [h1]; simpa using hj
      obtain ⟨arr2, t2, r2, h4, h5⟩ := cell_block (hcell j xs[j] (by simp))
      rw [h2] at h4
      injection h4 with h4
      injection h4 with h4
      subst h4
      rw [List.getElem?_drop, List.getElem?_eq_getElem hj]
      simpa using h5
    · rename_i hj
      rw [List.getElem?_eq_none]
      rw [h1]; simpa using hj
  rw [e]
  exact cells_vcs hC hc
theorem ints_vc {w : World} {v : Value} {l : List Int} (h : Ints w (Lt w) v l) : VC (baseM w) (intsA false l) [v] [] :=
  sl_vc (f := iA) (by decide) (fun c x hc => ⟨⟨hc, rfl⟩, rfl⟩) (fun _ => rfl) h
theorem vts_nil {m : Mem} : VTs m [] [] [] := ⟨rfl, rfl⟩
theorem vts_int {m : Mem} {l : List AV} {us : List Value} {x : Int} (k : VTs m l us []) : VTs m (iA x :: l) (.int .i64 x :: us) [] := (VTs_cons rfl).2 ⟨_, _, [], [], rfl, rfl, ⟨⟨rfl, rfl⟩, rfl⟩, k⟩
theorem vts_ints {w : World} {v : Value} {z : List Int} {l : List AV} {us : List Value} (h : Ints w (Lt w) v z) (k : VTs (baseM w) l us []) : VTs (baseM w) (intsA false z :: l) (v :: us) [] := (VTs_cons rfl).2 ⟨_, _, [], [], rfl, rfl, ints_vc h, k⟩
end Go.Proofs.Ytcfleoaldoebhaa
