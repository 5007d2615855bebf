/-
  Part 4 of the texts under the law MigrateUndoes: the layer of abstract values, walks and plain laws. Conditions: those that each theorem names.
-/
import Derived.WalkKit
import Derived.Lib.Hide
import Derived.Deep.OwnRows
import Derived.Deep.Draws
import Derived.Test.YtfkppbkipbbmaaaChecked
import Derived.ProofKit
import Derived.OpenShut
import Derived.ShutString
import Derived.ChangeOld
import Derived.Below
import Derived.SizedLaws
import Derived.Deep.Slices
import Derived.Deep.Fields
import Derived.ChangeSame
import Derived.Test.YtfkppbkipbbmaaaProg
import Derived.Test.YtfkppbkipbbmaaaMigrateUndoesP3
namespace Go.Proofs.Ytfkppbkipbbmaaa
set_option linter.unusedSimpArgs false
set_option linter.unusedVariables false

structure Field where
  name : List UInt8
  bits : Int
  low : Int
structure Kind where
  name : List UInt8
  fields : List Field
structure Ent where
  n : Int
  gen : Int
structure Comp where
  kind : Int
  vals : List Int
structure Item where
  ent : Ent
  comps : List Comp
structure Wd where
  kinds : List Kind
  gens : List Int
  items : List Item
structure Ref where
  kind : Int
  field : Int
structure Arg where
  has : Bool
  n : Int
  ref : Ref
structure Op where
  act : Int
  to : Ref
  a : Arg
  b : Arg
instance : DecidableEq Field := fun a b => decidable_of_iff (a.name = b.name ∧ a.bits = b.bits ∧ a.low = b.low) (by cases a; cases b; simp)
instance : DecidableEq Kind := fun a b => decidable_of_iff (a.name = b.name ∧ a.fields = b.fields) (by cases a; cases b; simp)
instance : DecidableEq Ent := fun a b => decidable_of_iff (a.n = b.n ∧ a.gen = b.gen) (by cases a; cases b; simp)
instance : DecidableEq Comp := fun a b => decidable_of_iff (a.kind = b.kind ∧ a.vals = b.vals) (by cases a; cases b; simp)
instance : DecidableEq Item := fun a b => decidable_of_iff (a.ent = b.ent ∧ a.comps = b.comps) (by cases a; cases b; simp)
instance : DecidableEq Wd := fun a b => decidable_of_iff (a.kinds = b.kinds ∧ a.gens = b.gens ∧ a.items = b.items) (by cases a; cases b; simp)
end Go.Proofs.Ytfkppbkipbbmaaa

namespace Go.Proofs.Ytfkppbkipbbmaaa
set_option linter.unusedSimpArgs false
set_option linter.unusedVariables false
open Go.RowKit

abbrev Reg := Nat → Prop
/-- The blocks that the world holds. -/
def Lt (w : World) : Reg := fun b => b < w.heap.size
section
variable {w w' w'' : World} {S T : Reg}
theorem bel {n m : Nat} {a b c : World} (h : Below n a b) (k : Below m b c) (hm : n ≤ m) : Below n a c := h.trans (k.mono hm)
/-- The slice value v holds n elements of sz cells each: the cells xs, in a block of S (none is asked of an empty one). -/
def Row (w : World) (S : Reg) (sz : Nat) (v : Value) (n : Nat) (xs : List Value) : Prop :=
  xs.length = n * sz ∧ ∃ A cap, v = .slice A n cap ∧ n ≤ cap ∧ (0 < n → ∃ b off, A = some ⟨b, off, none⟩ ∧ S b ∧ ∀ j u, xs[j]? = some u → w.cell? ⟨b, off + j, none⟩ = some u)

variable {sz n : Nat} {v : Value} {xs : List Value}
theorem Row.nil (w : World) (S : Reg) (sz : Nat) : Row w S sz (.slice none 0 0) 0 [] := ⟨by simp, none, 0, rfl, Nat.le_refl _, fun h => absurd h (by omega)⟩
end

/-- The cells xs are those of the data l, sz cells each. -/
def Cells {α : Type} (C : List Value → α → Prop) (sz : Nat) : List Value → List α → Prop
  | xs, [] => xs = []
  | xs, x :: l => ∃ c ys, xs = c ++ ys ∧ c.length = sz ∧ C c x ∧ Cells C sz ys l

section
variable {α : Type} {C C' : List Value → α → Prop} {sz : Nat} {xs ys : List Value} {l m : List α}
theorem Cells.nil : Cells C sz [] [] := rfl
theorem Cells.length (h : Cells C sz xs l) : xs.length = l.length * sz := by
  induction l generalizing xs with
  | nil => have : xs = [] := h; simp [this]
  | cons x l ih =>
    obtain ⟨c, ys, rfl, h1, _, h3⟩ := h
    simp [ih h3, h1, Nat.add_mul, Nat.add_comm]
end

/-- The slice value v reads as the list l, each element by C, all in blocks of S. -/
def Sl {α : Type} (w : World) (S : Reg) (sz : Nat) (C : World → Reg → List Value → α → Prop) (v : Value) (l : List α) : Prop :=
  ∃ xs, Row w S sz v l.length xs ∧ Cells (C w S) sz xs l

section
variable {α : Type} {w w' : World} {S T : Reg} {sz : Nat} {C : World → Reg → List Value → α → Prop} {v : Value} {l : List α}
theorem Sl.nil (w : World) (S : Reg) (sz : Nat) (C : World → Reg → List Value → α → Prop) : Sl w S sz C (.slice none 0 0) [] := ⟨[], Row.nil w S sz, .nil⟩
end

/-! ### The program's data in memory -/
abbrev strV (l : List UInt8) : Value := .string ⟨l.toArray⟩
def intC (_ : World) (_ : Reg) (c : List Value) (x : Int) : Prop := c = [.int .i64 x]
def fieldC (_ : World) (_ : Reg) (c : List Value) (f : Field) : Prop := c = [strV f.name, .int .i64 f.bits, .int .i64 f.low]
abbrev Ints (w : World) (S : Reg) (v : Value) (l : List Int) : Prop := Sl w S 1 intC v l
abbrev Fields (w : World) (S : Reg) (v : Value) (l : List Field) : Prop := Sl w S 3 fieldC v l
def kindC (w : World) (S : Reg) (c : List Value) (k : Kind) : Prop := ∃ vf, c = [strV k.name, vf] ∧ Fields w S vf k.fields
abbrev Kinds (w : World) (S : Reg) (v : Value) (l : List Kind) : Prop := Sl w S 2 kindC v l
section
variable {w w' : World} {S T : Reg} {v : Value}
/-! one element, its cells written out, at the addresses that the walk computes -/
variable {A : Option Addr} {n cap i : Nat}
end

section
variable {α : Type} {w w' : World} {base : Nat} {e : TypeId} {S T : Reg} {sz : Nat} {C : World → Reg → List Value → α → Prop} {v : Value} {l : List α}
end

section
variable {w w' : World} {b : Nat} {e : TypeId} {l : List Int}
end

section
variable {w w' : World} {g : Nat} {t : TypeId} {cs : Array Value}
end
end Go.Proofs.Ytfkppbkipbbmaaa

namespace Go.Proofs.Ytfkppbkipbbmaaa
set_option linter.unusedSimpArgs false
set_option linter.unusedVariables false
open Go.ChangeShapes Go.WideShapes Go.ChangeAt Go.RowKit Go.Deep

theorem flat_at {α : Type} {sz : Nat} {cs : α → List Value} {f : Nat → Option Value} (hcs : ∀ x, (cs x).length = sz) : ∀ (l : List α) (off : Nat), (∀ i (hi : i < l.length) j u, (cs l[i])[j]? = some u → f (off + (i * sz + j)) = some u) →
    ∀ j u, (l.flatMap cs)[j]? = some u → f (off + j) = some u := by
  intro l
  induction l with
  | nil => intro off _ j u h; simp at h
  | cons x l ih =>
    intro off h j u hj
    rw [List.flatMap_cons] at hj
    rcases Nat.lt_or_ge j sz with hlt | hge
    · rw [List.getElem?_append_left (by rw [hcs]; exact hlt)] at hj
      have := h 0 (by simp) j u hj
      simpa using this
    · rw [List.getElem?_append_right (by rw [hcs]; exact hge), hcs] at hj
      have := ih (off + sz) (fun i hi j u hu => by
        have := h (i + 1) (by simp; omega) j u hu
        rwa [Nat.add_mul, Nat.one_mul, show off + (i * sz + sz + j) = off + sz + (i * sz + j) by omega] at this) (j - sz) u hj
      rwa [show off + sz + (j - sz) = off + j by omega] at this
theorem cells_flat {α : Type} {sz : Nat} {cs : α → List Value} {C : List Value → α → Prop} (hcs : ∀ x, (cs x).length = sz) (hC : ∀ x, C (cs x) x) (l : List α) : Cells C sz (l.flatMap cs) l := by
  induction l with
  | nil => rfl
  | cons x l ih => exact ⟨cs x, l.flatMap cs, by rw [List.flatMap_cons], hcs x, hC x, ih⟩
theorem sl_of_cells {α : Type} {w : World} {sz : Nat} {C : World → Reg → List Value → α → Prop} {a : Addr} {n cap : Nat} {l : List α} {cs : α → List Value} (hn : n ≤ cap) (hl : l.length = n) (hsz : 0 < sz) (hcs : ∀ x, (cs x).length = sz) (hC : ∀ x, C w (Lt w) (cs x) x)
    (hcell : ∀ i (hi : i < l.length) j u, (cs l[i])[j]? = some u → w.cell? (a.add (i * sz + j)) = some u) : Sl w (Lt w) sz C (.slice (some a) n cap) l := by
  subst hl
  refine ⟨l.flatMap cs, ⟨?_, some a, cap, rfl, hn, fun h0 => ?_⟩, cells_flat hcs hC l⟩
  · have := (cells_flat (C := fun _ _ => True) hcs (fun _ => trivial) l).length
    exact this
  · obtain ⟨b, off, spot⟩ := a
    have h1 : ∃ u, (cs l[0])[0]? = some u := ⟨_, List.getElem?_eq_getElem (by rw [hcs]; exact hsz)⟩
    obtain ⟨u, hu⟩ := h1
    have h2 := hcell 0 h0 0 u hu
    have hspot : spot = none := by simpa [Addr.add] using World.cell?_spot h2
    subst hspot
    refine ⟨b, off, rfl, ?_, ?_⟩
    · rw [Go.WideShapes.add_plain] at h2
      unfold World.cell? at h2
      simp only at h2
      show b < w.heap.size
      rcases Nat.lt_or_ge b w.heap.size with h | h
      · exact h
      · rw [Array.getElem?_eq_none h] at h2
        cases h2
    · refine flat_at (f := fun k => w.cell? ⟨b, k, none⟩) hcs l off fun i hi j u hu => ?_
      have := hcell i hi j u hu
      rwa [Go.WideShapes.add_plain] at this

section
variable {H : Type} {enc : TypeId × Value → H} {w : World} {a : Option Addr} {len cap : Nat} {d : DataW H} {p : List MemPlace}
theorem ints_arg (h : DataW.Trod enc Try.prog w 0 (fun _ => true) true 22 (.slice a len cap) d p) :
    ∃ z : List Int, Ints w (Lt w) (.slice a len cap) z ∧ (z = [] ∨ ∃ elems spare, d = .slice elems spare ∧ z.length ≤ elems.length + spare.length) := by
  obtain ⟨fuel, hf⟩ := h
  rcases open_slice Try.underlying22 hf with ⟨hcs, _⟩ | ⟨x, l, c, m, n, D, Pl, hcs, hb, hl, hm, hmm, hx, hi⟩
  · simp [Value.cells] at hcs
    obtain ⟨rfl, rfl, rfl⟩ := hcs
    exact ⟨[], Sl.nil _ _ _ _, .inl rfl⟩
  · simp [Value.cells] at hcs
    obtain ⟨rfl, rfl, rfl⟩ := hcs
    have hlm : len ≤ m := by rw [hmm]; split <;> omega
    have hex : ∀ i, ∃ e : Int, i < len → ∀ j u, ([Value.int .i64 e])[j]? = some u → w.cell? (x.add (i * 1 + j)) = some u := by
      intro i
      by_cases hil : i < len
      · obtain ⟨cs', hc, ht⟩ := hi i (by omega)
        rw [show Try.prog.cellsOf 3 = 1 from by kernel_rfl] at hc
        obtain ⟨_, hcl, hat⟩ := World.cells?_some hc
        obtain ⟨k, rfl, _⟩ := DataW.trod_int Try.underlying3 ht
        refine ⟨k, fun _ j u hu => ?_⟩
        have hj : j = 0 := by
          have := (List.getElem?_eq_some_iff.1 hu).1
          simp at this
          omega
        subst hj
        have := hat 0 (by omega)
        rw [Go.Deep.add_add] at this
        rw [this, hu]
      · exact ⟨0, fun h => absurd h hil⟩
    obtain ⟨f, hf'⟩ := Classical.axiomOfChoice hex
    refine ⟨(List.range len).map f, sl_of_cells (cs := fun e => [Value.int .i64 e]) hl (by simp) (by omega) (fun _ => rfl) (fun _ => rfl) (fun i hi' j u hu => ?_), .inr ⟨_, _, (Prod.mk.inj hx).1, by simp⟩⟩
    simp only [List.length_map, List.length_range] at hi'
    exact hf' i hi' j u (by simpa using hu)
end
end Go.Proofs.Ytfkppbkipbbmaaa

namespace Go.Proofs.Ytfkppbkipbbmaaa
set_option linter.unusedVariables false

instance tAg3 : TAg Try.prog 3 false := ⟨by kernel_rfl⟩
instance tSize3 : TSize Try.prog 3 1 := ⟨by kernel_rfl⟩
instance tZe3 : TZe Try.prog 3 [.int .i64 0] := ⟨by kernel_rfl⟩
instance tBy3 : TBy Try.prog 3 8 := ⟨by kernel_rfl⟩
instance tAg5 : TAg Try.prog 5 false := ⟨by kernel_rfl⟩
instance tSize5 : TSize Try.prog 5 1 := ⟨by kernel_rfl⟩
instance tZe5 : TZe Try.prog 5 [.int .u8 0] := ⟨by kernel_rfl⟩
instance tAg9 : TAg Try.prog 9 false := ⟨by kernel_rfl⟩
instance tSize9 : TSize Try.prog 9 1 := ⟨by kernel_rfl⟩
instance tZe9 : TZe Try.prog 9 [.string ByteArray.empty] := ⟨by kernel_rfl⟩
instance tSg9 : TSg Try.prog 9  := ⟨by kernel_rfl⟩
instance tAg22 : TAg Try.prog 22 false := ⟨by kernel_rfl⟩
instance tSize22 : TSize Try.prog 22 1 := ⟨by kernel_rfl⟩
instance tEl22 : TEl Try.prog 22 3 := ⟨by kernel_rfl⟩
instance tRo22 : TRo Try.prog 22 3 1 8 := ⟨by kernel_rfl⟩
instance tAg23 : TAg Try.prog 23 false := ⟨by kernel_rfl⟩
instance tSize23 : TSize Try.prog 23 1 := ⟨by kernel_rfl⟩
instance tEl23 : TEl Try.prog 23 44 := ⟨by kernel_rfl⟩
instance tRo23 : TRo Try.prog 23 44 2 40 := ⟨by kernel_rfl⟩
instance tAg24 : TAg Try.prog 24 false := ⟨by kernel_rfl⟩
instance tSize24 : TSize Try.prog 24 1 := ⟨by kernel_rfl⟩
instance tEl24 : TEl Try.prog 24 36 := ⟨by kernel_rfl⟩
instance tRo24 : TRo Try.prog 24 36 3 40 := ⟨by kernel_rfl⟩
instance tAg26 : TAg Try.prog 26 true := ⟨by kernel_rfl⟩
instance tSize26 : TSize Try.prog 26 3 := ⟨by kernel_rfl⟩
instance tZe26 : TZe Try.prog 26 [.slice none 0 0, .slice none 0 0, .slice none 0 0] := ⟨by kernel_rfl⟩
instance tFl26_0 : TFl Try.prog 26 0 0 23 := ⟨by kernel_rfl⟩
instance tFl26_1 : TFl Try.prog 26 1 1 22 := ⟨by kernel_rfl⟩
instance tFl26_2 : TFl Try.prog 26 2 2 24 := ⟨by kernel_rfl⟩
instance tSt26 : TSt Try.prog 26 [.slice none 0 0, .slice none 0 0, .slice none 0 0] [(0, 1), (1, 1), (2, 1)] := ⟨by kernel_rfl⟩
instance tAg33 : TAg Try.prog 33 true := ⟨by kernel_rfl⟩
instance tSize33 : TSize Try.prog 33 2 := ⟨by kernel_rfl⟩
instance tFl33_0 : TFl Try.prog 33 0 0 3 := ⟨by kernel_rfl⟩
instance tFl33_1 : TFl Try.prog 33 1 1 3 := ⟨by kernel_rfl⟩
instance tSt33 : TSt Try.prog 33 [.int .i64 0, .int .i64 0] [(0, 1), (1, 1)] := ⟨by kernel_rfl⟩
instance tAg34 : TAg Try.prog 34 false := ⟨by kernel_rfl⟩
instance tSize34 : TSize Try.prog 34 1 := ⟨by kernel_rfl⟩
instance tEl34 : TEl Try.prog 34 141 := ⟨by kernel_rfl⟩
instance tRo34 : TRo Try.prog 34 141 2 32 := ⟨by kernel_rfl⟩
instance tAg36 : TAg Try.prog 36 true := ⟨by kernel_rfl⟩
instance tSize36 : TSize Try.prog 36 3 := ⟨by kernel_rfl⟩
instance tZe36 : TZe Try.prog 36 [.int .i64 0, .int .i64 0, .slice none 0 0] := ⟨by kernel_rfl⟩
instance tBy36 : TBy Try.prog 36 40 := ⟨by kernel_rfl⟩
instance tFl36_0 : TFl Try.prog 36 0 0 33 := ⟨by kernel_rfl⟩
instance tFl36_1 : TFl Try.prog 36 1 2 34 := ⟨by kernel_rfl⟩
instance tSt36 : TSt Try.prog 36 [.int .i64 0, .int .i64 0, .slice none 0 0] [(0, 2), (2, 1)] := ⟨by kernel_rfl⟩
instance tEl38 : TEl Try.prog 38 46 := ⟨by kernel_rfl⟩
instance tRo38 : TRo Try.prog 38 46 10 136 := ⟨by kernel_rfl⟩
instance tAg41 : TAg Try.prog 41 true := ⟨by kernel_rfl⟩
instance tSize41 : TSize Try.prog 41 3 := ⟨by kernel_rfl⟩
instance tZe41 : TZe Try.prog 41 [.string ByteArray.empty, .int .i64 0, .int .i64 0] := ⟨by kernel_rfl⟩
instance tFl41_0 : TFl Try.prog 41 0 0 9 := ⟨by kernel_rfl⟩
instance tFl41_1 : TFl Try.prog 41 1 1 3 := ⟨by kernel_rfl⟩
instance tFl41_2 : TFl Try.prog 41 2 2 3 := ⟨by kernel_rfl⟩
instance tSt41 : TSt Try.prog 41 [.string ByteArray.empty, .int .i64 0, .int .i64 0] [(0, 1), (1, 1), (2, 1)] := ⟨by kernel_rfl⟩
instance tAg42 : TAg Try.prog 42 false := ⟨by kernel_rfl⟩
instance tSize42 : TSize Try.prog 42 1 := ⟨by kernel_rfl⟩
instance tEl42 : TEl Try.prog 42 41 := ⟨by kernel_rfl⟩
instance tRo42 : TRo Try.prog 42 41 3 32 := ⟨by kernel_rfl⟩
instance tAg44 : TAg Try.prog 44 true := ⟨by kernel_rfl⟩
instance tSize44 : TSize Try.prog 44 2 := ⟨by kernel_rfl⟩
instance tZe44 : TZe Try.prog 44 [.string ByteArray.empty, .slice none 0 0] := ⟨by kernel_rfl⟩
instance tBy44 : TBy Try.prog 44 40 := ⟨by kernel_rfl⟩
instance tFl44_0 : TFl Try.prog 44 0 0 9 := ⟨by kernel_rfl⟩
instance tFl44_1 : TFl Try.prog 44 1 1 42 := ⟨by kernel_rfl⟩
instance tSt44 : TSt Try.prog 44 [.string ByteArray.empty, .slice none 0 0] [(0, 1), (1, 1)] := ⟨by kernel_rfl⟩
instance tAg46 : TAg Try.prog 46 true := ⟨by kernel_rfl⟩
instance tSize46 : TSize Try.prog 46 10 := ⟨by kernel_rfl⟩
instance tZe46 : TZe Try.prog 46 [.int .i64 0, .string ByteArray.empty, .string ByteArray.empty, .string ByteArray.empty, .int .i64 0, .string ByteArray.empty, .int .i64 0, .int .i64 0, .string ByteArray.empty, .slice none 0 0] := ⟨by kernel_rfl⟩
instance tFl46_0 : TFl Try.prog 46 0 0 3 := ⟨by kernel_rfl⟩
instance tFl46_1 : TFl Try.prog 46 1 1 9 := ⟨by kernel_rfl⟩
instance tFl46_2 : TFl Try.prog 46 2 2 9 := ⟨by kernel_rfl⟩
instance tFl46_3 : TFl Try.prog 46 3 3 9 := ⟨by kernel_rfl⟩
instance tFl46_4 : TFl Try.prog 46 4 4 3 := ⟨by kernel_rfl⟩
instance tFl46_5 : TFl Try.prog 46 5 5 41 := ⟨by kernel_rfl⟩
instance tFl46_6 : TFl Try.prog 46 6 8 44 := ⟨by kernel_rfl⟩
instance tSt46 : TSt Try.prog 46 [.int .i64 0, .string ByteArray.empty, .string ByteArray.empty, .string ByteArray.empty, .int .i64 0, .string ByteArray.empty, .int .i64 0, .int .i64 0, .string ByteArray.empty, .slice none 0 0] [(0, 1), (1, 1), (2, 1), (3, 1), (4, 1), (5, 3), (8, 2)] := ⟨by kernel_rfl⟩
instance tEl72 : TEl Try.prog 72 5 := ⟨by kernel_rfl⟩
instance tFl84_0 : TFl Try.prog 84 0 0 22 := ⟨by kernel_rfl⟩
instance tSt84 : TSt Try.prog 84 [.slice none 0 0] [(0, 1)] := ⟨by kernel_rfl⟩
instance tEl139 : TEl Try.prog 139 9 := ⟨by kernel_rfl⟩
instance tAg141 : TAg Try.prog 141 true := ⟨by kernel_rfl⟩
instance tSize141 : TSize Try.prog 141 2 := ⟨by kernel_rfl⟩
instance tZe141 : TZe Try.prog 141 [.int .i64 0, .slice none 0 0] := ⟨by kernel_rfl⟩
instance tBy141 : TBy Try.prog 141 32 := ⟨by kernel_rfl⟩
instance tFl141_0 : TFl Try.prog 141 0 0 3 := ⟨by kernel_rfl⟩
instance tFl141_1 : TFl Try.prog 141 1 1 22 := ⟨by kernel_rfl⟩
instance tSt141 : TSt Try.prog 141 [.int .i64 0, .slice none 0 0] [(0, 1), (1, 1)] := ⟨by kernel_rfl⟩
end Go.Proofs.Ytfkppbkipbbmaaa

namespace Go.Proofs.Ytfkppbkipbbmaaa
set_option linter.unusedSimpArgs false
set_option linter.unusedVariables false
abbrev iA (n : Int) : AV := .prim (.int .i64 n)
abbrev bA (b : Bool) : AV := .prim (.bool b)
abbrev sA (l : List UInt8) : AV := .prim (strA l)
def fieldA (f : Field) : AV := .agg [sA f.name, iA f.bits, iA f.low]
abbrev fieldsA (o : Bool) (l : List Field) : AV := .lst o 41 3 (l.map fieldA)
def kindA (o : Bool) (k : Kind) : AV := .agg [sA k.name, fieldsA o k.fields]
abbrev kindsA (o o' : Bool) (l : List Kind) : AV := .lst o 44 2 (l.map (kindA o'))
abbrev intsA (o : Bool) (l : List Int) : AV := .lst o 3 1 (l.map iA)
instance {f : Field} : Frz (fieldA f) (fieldA f) := ⟨rfl⟩
instance {o : Bool} {k : Kind} : Frz (kindA o k) (kindA false k) := ⟨by unfold kindA; exact Frz.h⟩
def compA (o : Bool) (c : Comp) : AV := .agg [iA c.kind, intsA o c.vals]
abbrev compsA (o o' : Bool) (l : List Comp) : AV := .lst o 141 2 (l.map (compA o'))
def itemA (o : Bool) (x : Item) : AV := .agg [iA x.ent.n, iA x.ent.gen, compsA o o x.comps]
abbrev itemsA (o o' : Bool) (l : List Item) : AV := .lst o 36 3 (l.map (itemA o'))
def wdA (o : Bool) (w : Wd) : AV := .agg [kindsA o o w.kinds, intsA o w.gens, itemsA o o w.items]
instance {o : Bool} {k : Comp} : Frz (compA o k) (compA false k) := ⟨by unfold compA; exact Frz.h⟩
instance {o : Bool} {k : Item} : Frz (itemA o k) (itemA false k) := ⟨by unfold itemA; exact Frz.h⟩
instance {o : Bool} {k : Wd} : Frz (wdA o k) (wdA false k) := ⟨by unfold wdA; exact Frz.h⟩
theorem frzs_same {α : Type} (f : α → AV) (h : ∀ a, (f a).frz = f a) (l : List α) : AV.frzs (l.map f) = l.map f := by
  rw [frzs_map, List.map_map]
  exact List.map_congr_left fun a _ => h a
theorem intsA_frz (o : Bool) (l : List Int) : (intsA o l).frz = intsA false l := by
  show AV.lst false _ _ (AV.frzs (l.map iA)) = _
  rw [frzs_same _ fun _ => rfl]
end Go.Proofs.Ytfkppbkipbbmaaa

namespace Go.Proofs.Ytfkppbkipbbmaaa
set_option linter.unusedSimpArgs false
set_option linter.unusedVariables false

def lowc (c : UInt8) : Bool := decide (97 ≤ c) && decide (c ≤ 122)
def digc (c : UInt8) : Bool := decide (48 ≤ c) && decide (c ≤ 57)
def chOk (l : List UInt8) (j : Nat) : Bool := lowc (l.getD j 0) || (decide (0 < j) && digc (l.getD j 0))
def nameOk (l : List UInt8) : Bool := decide (0 < l.length) && decide (l.length ≤ 16) && (List.range l.length).all (chOk l)
def fieldErr (f : Field) : Int := if nameOk f.name && decide (1 ≤ f.bits) && decide (f.bits ≤ 32) && decide (-4294967296 ≤ f.low) && decide (f.low ≤ 4294967296) then 0 else 3
def fieldsErr : List Field → List Field → Int
  | _, [] => 0
  | pre, f :: fs => if fieldErr f ≠ 0 then fieldErr f else if pre.any (fun o => o.name == f.name) then 5 else fieldsErr (pre ++ [f]) fs
def oneErr (k : Kind) : Int := if nameOk k.name then (if 8 < k.fields.length then 2 else fieldsErr [] k.fields) else 3

def findKind (l : List Kind) (name : List UInt8) : Int :=
  match l.findIdx? (fun k => k.name == name) with
  | some i => i
  | none => -1
def kindsErr : List Kind → List Kind → Int
  | _, [] => 0
  | pre, k :: ks => if oneErr k ≠ 0 then oneErr k else if pre.any (fun o => o.name == k.name) then 5 else kindsErr (pre ++ [k]) ks
def checkErr (l : List Kind) : Int := if 16 < l.length then 2 else kindsErr [] l
def highOf (f : Field) : Int := if fieldErr f = 0 then f.low + (2 ^ f.bits.toNat - 1) else 0
def nearOf (f : Field) (v : Int) : Int := if fieldErr f = 0 then max f.low (min v (highOf f)) else 0
def fitOf (k : Kind) (vals : List Int) : List Int × Int :=
  if oneErr k ≠ 0 then ([], oneErr k) else if vals.length ≠ k.fields.length then ([], 1) else (List.zipWith nearOf k.fields vals, 0)
def holdsOf (k : Kind) (vals : List Int) : Bool := decide ((fitOf k vals).2 = 0) && decide ((fitOf k vals).1 = vals)

theorem findKind_none {l : List Kind} {name : List UInt8} (h : ∀ j (hj : j < l.length), l[j].name ≠ name) : findKind l name = -1 := by
  have : l.findIdx? (fun k => k.name == name) = none := by
    rw [List.findIdx?_eq_none_iff]
    intro x hx
    obtain ⟨j, hj, rfl⟩ := List.getElem_of_mem hx
    simpa using h j hj
  simp [findKind, this]
theorem findKind_some {l : List Kind} {name : List UInt8} {i : Nat} (hi : i < l.length) (e : l[i].name = name) (h : ∀ j (hj : j < i), (l[j]'(by omega)).name ≠ name) : findKind l name = i := by
  have : l.findIdx? (fun k => k.name == name) = some i := by
    rw [List.findIdx?_eq_some_iff_getElem]
    refine ⟨hi, by simpa using e, fun j hj => ?_⟩
    simpa using h j hj
  simp [findKind, this]
theorem kindsErr_bad {pre : List Kind} {k : Kind} {ks : List Kind} (h : oneErr k ≠ 0) : kindsErr pre (k :: ks) = oneErr k := by
  simp [kindsErr, h]
theorem kindsErr_twice {pre : List Kind} {k : Kind} {ks : List Kind} (h : oneErr k = 0) (hf : 0 ≤ findKind pre k.name) : kindsErr pre (k :: ks) = 5 := by
  have : pre.any (fun o => o.name == k.name) = true := by
    rcases hc : pre.any (fun o => o.name == k.name) with _ | _
    · exfalso
      rw [List.any_eq_false] at hc
      rw [findKind_none (fun j hj => by simpa using hc _ (List.getElem_mem hj))] at hf
      omega
    · rfl
  simp [kindsErr, h, this]
theorem kindsErr_next {pre : List Kind} {k : Kind} {ks : List Kind} (h : oneErr k = 0) (hf : findKind pre k.name < 0) : kindsErr pre (k :: ks) = kindsErr (pre ++ [k]) ks := by
  have : pre.any (fun o => o.name == k.name) = false := by
    rcases hc : pre.any (fun o => o.name == k.name) with _ | _
    · rfl
    · exfalso
      rw [List.any_eq_true] at hc
      obtain ⟨x, hx, e⟩ := hc
      unfold findKind at hf
      split at hf
      · omega
      · rename_i hn
        rw [List.findIdx?_eq_none_iff] at hn
        exact absurd e (by simpa using hn x hx)
  simp [kindsErr, h, this]
theorem kindsErr_at {l : List Kind} {i : Nat} (hi : i < l.length) : kindsErr (l.take i) (l.drop i) = kindsErr (l.take i) (l[i] :: l.drop (i + 1)) := by
  rw [List.drop_eq_getElem_cons hi]
theorem kindsErr_end {l : List Kind} {i : Nat} (hi : l.length ≤ i) : kindsErr (l.take i) (l.drop i) = 0 := by
  rw [List.drop_of_length_le hi]; rfl
theorem fieldErr_ok (f : Field) (h : nameOk f.name = true) (hb : 1 ≤ f.bits ∧ f.bits ≤ 32 ∧ -4294967296 ≤ f.low ∧ f.low ≤ 4294967296) : fieldErr f = 0 := by
  simp [fieldErr, h, hb]
theorem fieldErr_no (f : Field) (h : nameOk f.name = true → ¬ (1 ≤ f.bits ∧ f.bits ≤ 32 ∧ -4294967296 ≤ f.low ∧ f.low ≤ 4294967296)) : fieldErr f = 3 := by
  unfold fieldErr
  rw [if_neg]
  simp only [Bool.and_eq_true, decide_eq_true_eq]
  intro hc
  exact h hc.1.1.1.1 ⟨hc.1.1.1.2, hc.1.1.2, hc.1.2, hc.2⟩
theorem fieldErr_eq_zero (f : Field) : fieldErr f = 0 ↔ nameOk f.name = true ∧ 1 ≤ f.bits ∧ f.bits ≤ 32 ∧ -4294967296 ≤ f.low ∧ f.low ≤ 4294967296 := by
  constructor
  · intro h
    unfold fieldErr at h
    split at h
    · rename_i hc
      simpa [and_assoc] using hc
    · simp at h
  · rintro ⟨h, hb⟩
    exact fieldErr_ok f h hb
theorem fieldsErr_bad {pre : List Field} {f : Field} {fs : List Field} (h : fieldErr f ≠ 0) : fieldsErr pre (f :: fs) = fieldErr f := by
  simp [fieldsErr, h]
theorem fieldsErr_twice {pre : List Field} {f : Field} {fs : List Field} (h : fieldErr f = 0) {j : Nat} (hj : j < pre.length) (e : pre[j].name = f.name) : fieldsErr pre (f :: fs) = 5 := by
  have : pre.any (fun o => o.name == f.name) = true := by
    rw [List.any_eq_true]
    exact ⟨pre[j], List.getElem_mem hj, by simp [e]⟩
  simp [fieldsErr, h, this]
theorem fieldsErr_next {pre : List Field} {f : Field} {fs : List Field} (h : fieldErr f = 0) (e : ∀ j (hj : j < pre.length), pre[j].name ≠ f.name) : fieldsErr pre (f :: fs) = fieldsErr (pre ++ [f]) fs := by
  have : pre.any (fun o => o.name == f.name) = false := by
    rw [List.any_eq_false]
    intro x hx
    obtain ⟨j, hj, rfl⟩ := List.getElem_of_mem hx
    simpa using e j hj
  simp [fieldsErr, h, this]
theorem fieldsErr_at {l : List Field} {i : Nat} (hi : i < l.length) : fieldsErr (l.take i) (l.drop i) = fieldsErr (l.take i) (l[i] :: l.drop (i + 1)) := by
  rw [List.drop_eq_getElem_cons hi]
theorem fieldsErr_end {l : List Field} {i : Nat} (hi : l.length ≤ i) : fieldsErr (l.take i) (l.drop i) = 0 := by
  rw [List.drop_of_length_le hi]; rfl
theorem nameOk_no (l : List UInt8) (j : Nat) (hj : j < l.length) (h : chOk l j = false) : nameOk l = false := by
  have : (List.range l.length).all (chOk l) = false := by
    rw [List.all_eq_false]
    exact ⟨j, List.mem_range.2 hj, by simp [h]⟩
  simp [nameOk, this]
theorem nameOk_yes (l : List UInt8) (h0 : 0 < l.length) (h1 : l.length ≤ 16) (h : ∀ j, j < l.length → chOk l j = true) : nameOk l = true := by
  have : (List.range l.length).all (chOk l) = true := by
    rw [List.all_eq_true]
    intro x hx
    exact h x (List.mem_range.1 hx)
  simp [nameOk, this, h0, h1]
theorem nameOk_long (l : List UInt8) (h : l.length = 0 ∨ 16 < l.length) : nameOk l = false := by
  rcases h with h | h
  · simp [nameOk, h]
  · simp [nameOk, show ¬ l.length ≤ 16 from by omega]

theorem pow_bits {b : Int} (h1 : 1 ≤ b) (h2 : b ≤ 32) : (2 : Int) ≤ 2 ^ b.toNat ∧ (2 : Int) ^ b.toNat ≤ 4294967296 := by
  obtain ⟨n, rfl⟩ : ∃ n : Nat, b = n := ⟨b.toNat, by omega⟩
  rw [Int.toNat_natCast]
  have h : n = 1 ∨ n = 2 ∨ n = 3 ∨ n = 4 ∨ n = 5 ∨ n = 6 ∨ n = 7 ∨ n = 8 ∨ n = 9 ∨ n = 10 ∨ n = 11 ∨ n = 12 ∨ n = 13 ∨ n = 14 ∨ n = 15 ∨ n = 16 ∨ n = 17 ∨ n = 18 ∨ n = 19 ∨ n = 20 ∨ n = 21 ∨ n = 22 ∨ n = 23 ∨ n = 24 ∨ n = 25 ∨ n = 26 ∨ n = 27 ∨ n = 28 ∨ n = 29 ∨ n = 30 ∨ n = 31 ∨ n = 32 := by omega
  rcases h with rfl | rfl | rfl | rfl | rfl | rfl | rfl | rfl | rfl | rfl | rfl | rfl | rfl | rfl | rfl | rfl | rfl | rfl | rfl | rfl | rfl | rfl | rfl | rfl | rfl | rfl | rfl | rfl | rfl | rfl | rfl | rfl <;> decide
theorem highOf_eq {f : Field} (h : fieldErr f = 0) : highOf f = f.low + (2 ^ f.bits.toNat - 1) := by simp [highOf, h]
theorem highOf_bd {f : Field} (h : fieldErr f = 0) : f.low < highOf f ∧ highOf f ≤ 8589934592 := by
  have hb := (fieldErr_eq_zero f).1 h
  have := pow_bits hb.2.1 hb.2.2.1
  rw [highOf_eq h]
  omega
end Go.Proofs.Ytfkppbkipbbmaaa

namespace Go.Proofs.Ytfkppbkipbbmaaa
set_option linter.unusedVariables false
theorem find_ps (l : List Kind) (name : List UInt8) (hl : l.length ≤ 1099511627776) : PS Try.prog 89 [kindsA false false l, sA name] (iA (findKind l name)) := by
  refine Spec.of (nt := 20) (res := [.tmp 4]) Try.func89 rfl (by kernel_rfl) rfl rfl rfl fun Sf => ?_
  (repeat (first | refine AWP.loopR (fun i : Nat => ⟨[(1, sA name), (7, kindsA false false l), (8, iA (l.map (kindA false)).length), (9, iA i)], Sf⟩) (fun i => i ≤ l.length ∧ ∀ j (h : j < l.length), j < i → l[j].name ≠ name) (fun i => l.length - i) 0 ⟨by omega, by omega⟩ ⟨.cons rfl (.cons rfl (.cons rfl (.cons rfl .nil))), List.Sublist.refl _⟩ ?_ | refine WK ?_ | refine All.i fun X => ?_ | refine AllY.i fun Y => ?_))
  rintro i ⟨hi, hn⟩
  (repeat (first | refine WK ?_ | refine All.i fun X => ?_ | refine AllY.i fun Y => ?_))
  refine AWP.cond rfl (fun hb => ?_) (fun hb => ?_)
  · have h : i < l.length := by simpa using hb
    (repeat (first | (refine AOps.gN ?_; first | refine AOps.p (W.idxL rfl rfl rfl (map_at _ h)) rfl ?_) | refine WK ?_ | refine All.i fun X => ?_ | refine AllY.i fun Y => ?_))
    refine AWP.cond rfl (fun hc => ?_) (fun hc => ?_)
    · have hc : l[i].name = name := by simpa using hc
      (repeat (first | refine WK ?_ | refine All.i fun X => ?_ | refine AllY.i fun Y => ?_))
      (refine AWP.ret ?_; (repeat (first | refine inB_r ?_ | refine andThen_r ?_)); refine retQ_r ?_)
      refine Ends.plain rfl rfl (by exact Sub.f) ⟨?_, rfl⟩
      rw [findKind_some h hc fun j hj => hn j (by omega) hj]
    · have hc : l[i].name ≠ name := by simpa using hc
      (repeat (first | refine WK ?_ | refine All.i fun X => ?_ | refine AllY.i fun Y => ?_))
      refine ⟨i + 1, ⟨by omega, fun j hj hji => ?_⟩, by omega, .cons rfl (.cons rfl (.cons rfl (.cons rfl .nil))), by exact Sub.f⟩
      by_cases e : j = i
      · subst e; exact hc
      · exact hn j hj (by omega)
  · have h : ¬ i < l.length := by simpa using hb
    (repeat (first | refine WK ?_ | refine All.i fun X => ?_ | refine AllY.i fun Y => ?_))
    (refine AWP.ret ?_; (repeat (first | refine inB_r ?_ | refine andThen_r ?_)); refine retQ_r ?_)
    refine Ends.plain rfl rfl (by exact Sub.f) ⟨?_, rfl⟩
    rw [findKind_none fun j hj => hn j hj (by omega)]
end Go.Proofs.Ytfkppbkipbbmaaa

namespace Go.Proofs.Ytfkppbkipbbmaaa
set_option linter.unusedSimpArgs false
set_option linter.unusedVariables false
/-- Are the components those of an item, all kinds above 'last'? -/
def heldFrom (ks : List Kind) : Int → List Comp → Bool
  | _, [] => true
  | last, c :: l => match ks[c.kind.toNat]? with
    | some k => decide (last < c.kind) && decide (c.kind < ks.length) && holdsOf k c.vals && heldFrom ks c.kind l
    | none => false
def heldOf (ks : List Kind) (l : List Comp) : Bool := heldFrom ks (-1) l
theorem heldFrom_at {ks : List Kind} {l : List Comp} {i : Nat} {last : Int} {k : Kind} {c : Comp} (h : i < l.length) (hc : l[i] = c) (hk : ks[c.kind.toNat]? = some k) : heldFrom ks last (l.drop i) = (decide (last < c.kind) && decide (c.kind < ks.length) && holdsOf k c.vals && heldFrom ks c.kind (l.drop (i + 1))) := by
  rw [List.drop_eq_getElem_cons h, heldFrom, hc, hk]
theorem heldFrom_no {ks : List Kind} {l : List Comp} {i : Nat} {last : Int} {c : Comp} (h : i < l.length) (hc : l[i] = c) (hn : c.kind ≤ last ∨ (ks.length : Int) ≤ c.kind) : heldFrom ks last (l.drop i) = false := by
  rw [List.drop_eq_getElem_cons h, heldFrom, hc]
  split
  · rcases hn with hn | hn
    · rw [decide_eq_false (by omega)]; rfl
    · rw [decide_eq_false (p := c.kind < _) (by omega)]; simp
  · rfl
/-- Are the items those of a world, all slots above 'last'? -/
def itemsFrom (ks : List Kind) (gens : List Int) : Int → List Item → Bool
  | _, [] => true
  | last, it :: l => match gens[it.ent.n.toNat]? with
    | some g => decide (last < it.ent.n) && decide (it.ent.n < gens.length) && decide (it.ent.gen = g) && !decide (it.ent.gen = 1073741824) && heldOf ks it.comps && itemsFrom ks gens it.ent.n l
    | none => false
theorem itemsFrom_at {ks : List Kind} {gens : List Int} {l : List Item} {i : Nat} {last : Int} {g : Int} {it : Item} (h : i < l.length) (hc : l[i] = it) (hk : gens[it.ent.n.toNat]? = some g) : itemsFrom ks gens last (l.drop i) = (decide (last < it.ent.n) && decide (it.ent.n < gens.length) && decide (it.ent.gen = g) && !decide (it.ent.gen = 1073741824) && heldOf ks it.comps && itemsFrom ks gens it.ent.n (l.drop (i + 1))) := by
  rw [List.drop_eq_getElem_cons h, itemsFrom, hc, hk]
theorem itemsFrom_no {ks : List Kind} {gens : List Int} {l : List Item} {i : Nat} {last : Int} {it : Item} (h : i < l.length) (hc : l[i] = it) (hn : it.ent.n ≤ last ∨ (gens.length : Int) ≤ it.ent.n) : itemsFrom ks gens last (l.drop i) = false := by
  rw [List.drop_eq_getElem_cons h, itemsFrom, hc]
  split
  · rcases hn with hn | hn
    · rw [decide_eq_false (by omega)]; rfl
    · rw [decide_eq_false (p := it.ent.n < _) (by omega)]; simp
  · rfl
def gensOk (l : List Int) : Bool := l.all fun g => decide (0 ≤ g) && decide (g ≤ 1073741824)
/-- What world.Check returns. -/
def wdErr (w : Wd) : Int :=
  if checkErr w.kinds ≠ 0 then checkErr w.kinds
  else if 256 < w.gens.length ∨ w.gens.length < w.items.length then 2
  else if gensOk w.gens = false then 3
  else if itemsFrom w.kinds w.gens (-1) w.items = false then 3 else 0
end Go.Proofs.Ytfkppbkipbbmaaa

namespace Go.Proofs.Ytfkppbkipbbmaaa
set_option linter.unusedSimpArgs false
set_option linter.unusedVariables false
structure Move where
  act : Int
  kind : List UInt8
  field : List UInt8
  name : List UInt8
  value : Int
  new : Field
  whole : Kind
def findField (l : List Field) (name : List UInt8) : Int :=
  match l.findIdx? (fun f => f.name == name) with
  | some i => i
  | none => -1
theorem findField_none {l : List Field} {name : List UInt8} (h : ∀ j (hj : j < l.length), l[j].name ≠ name) : findField l name = -1 := by
  have : l.findIdx? (fun k => k.name == name) = none := by
    rw [List.findIdx?_eq_none_iff]
    intro x hx
    obtain ⟨j, hj, rfl⟩ := List.getElem_of_mem hx
    simpa using h j hj
  simp [findField, this]
theorem findField_some {l : List Field} {name : List UInt8} {i : Nat} (hi : i < l.length) (e : l[i].name = name) (h : ∀ j (hj : j < i), (l[j]'(by omega)).name ≠ name) : findField l name = i := by
  have : l.findIdx? (fun k => k.name == name) = some i := by
    rw [List.findIdx?_eq_some_iff_getElem]
    refine ⟨hi, by simpa using e, fun j hj => ?_⟩
    simpa using h j hj
  simp [findField, this]
theorem findField_at {l : List Field} {name : List UInt8} (h : 0 ≤ findField l name) : ∃ j, findField l name = (j : Nat) ∧ ∃ f, l[j]? = some f ∧ f.name = name := by
  cases hc : l.findIdx? (fun f => f.name == name) with
  | none => simp [findField, hc] at h
  | some i =>
    obtain ⟨h1, h2, _⟩ := List.findIdx?_eq_some_iff_getElem.1 hc
    exact ⟨i, by simp [findField, hc], _, List.getElem?_eq_getElem h1, by simpa using h2⟩
theorem findKind_at {l : List Kind} {name : List UInt8} (h : 0 ≤ findKind l name) : ∃ j, findKind l name = (j : Nat) ∧ ∃ f, l[j]? = some f ∧ f.name = name := by
  cases hc : l.findIdx? (fun f => f.name == name) with
  | none => simp [findKind, hc] at h
  | some i =>
    obtain ⟨h1, h2, _⟩ := List.findIdx?_eq_some_iff_getElem.1 hc
    exact ⟨i, by simp [findKind, hc], _, List.getElem?_eq_getElem h1, by simpa using h2⟩
/-- The indices of the kind and the field of a move, and the error. -/
def placeOf (ks : List Kind) (m : Move) : Int × Int × Int :=
  if m.act < 0 ∨ 6 < m.act then (0, 0, 1) else if m.act = 0 then (0, 0, 0) else if findKind ks m.kind < 0 then (0, 0, 4) else if m.act ≤ 3 then (findKind ks m.kind, 0, 0) else
  match ks[(findKind ks m.kind).toNat]? with
  | none => (0, 0, 4)
  | some k => if findField k.fields m.field < 0 then (0, 0, 4) else (findKind ks m.kind, findField k.fields m.field, 0)
/-- The kinds after a move at a place. -/
def rawOf (ks : List Kind) (m : Move) (i j : Nat) : List Kind :=
  if m.act = 0 then ks ++ [m.whole] else if m.act = 1 then ks.eraseIdx i else match ks[i]? with
  | none => ks
  | some k => if m.act = 2 then ks.set i ⟨m.name, k.fields⟩ else if m.act = 3 then ks.set i ⟨k.name, k.fields ++ [m.new]⟩ else if m.act = 4 then ks.set i ⟨k.name, k.fields.eraseIdx j⟩ else match k.fields[j]? with
    | none => ks
    | some f => if m.act = 5 then ks.set i ⟨k.name, k.fields.set j ⟨m.name, f.bits, f.low⟩⟩ else ks.set i ⟨k.name, k.fields.set j ⟨f.name, m.new.bits, m.new.low⟩⟩
def stepOf (ks : List Kind) (m : Move) : List Kind × Int :=
  if (placeOf ks m).2.2 ≠ 0 then ([], (placeOf ks m).2.2) else
  if checkErr (rawOf ks m (placeOf ks m).1.toNat (placeOf ks m).2.1.toNat) ≠ 0 then ([], checkErr (rawOf ks m (placeOf ks m).1.toNat (placeOf ks m).2.1.toNat)) else (rawOf ks m (placeOf ks m).1.toNat (placeOf ks m).2.1.toNat, 0)
def kindsFold : List Kind → List Move → List Kind × Int
  | ks, [] => (ks, 0)
  | ks, m :: ms => if (stepOf ks m).2 ≠ 0 then ([], (stepOf ks m).2) else kindsFold (stepOf ks m).1 ms
/-- What migrate.Kinds returns. -/
def kindsOf (ks : List Kind) (ms : List Move) : List Kind × Int :=
  if checkErr ks ≠ 0 then ([], checkErr ks) else if 100 < ms.length then ([], 2) else kindsFold ks ms
/-- A component after a move; ks: the new kinds. -/
def compOne (ks : List Kind) (m : Move) (i j : Int) (c : Comp) : Option Comp :=
  if m.act = 1 ∧ c.kind = i then none else
  if m.act = 1 ∧ i < c.kind then some ⟨c.kind - 1, c.vals⟩ else
  if c.kind = i then
    if m.act = 3 then some ⟨c.kind, c.vals ++ [nearOf m.new m.value]⟩ else
    if m.act = 4 then some ⟨c.kind, c.vals.eraseIdx j.toNat⟩ else
    if m.act = 6 then (match (ks[i.toNat]?).bind (·.fields[j.toNat]?), c.vals[j.toNat]? with
      | some f, some v => some ⟨c.kind, c.vals.set j.toNat (nearOf f v)⟩
      | _, _ => some c) else some c
  else some c
def compsAt (ks : List Kind) (m : Move) (i j : Int) (l : List Comp) : List Comp := l.filterMap (compOne ks m i j)
def worldStep (w : Wd) (m : Move) : Wd :=
  ⟨(stepOf w.kinds m).1, w.gens, w.items.map fun it => ⟨it.ent, compsAt (stepOf w.kinds m).1 m (placeOf w.kinds m).1 (placeOf w.kinds m).2.1 it.comps⟩⟩
/-- What migrate.World returns. -/
def worldOf (w : Wd) (ms : List Move) : Wd × Int :=
  if wdErr w ≠ 0 then (⟨[], [], []⟩, wdErr w) else if (kindsOf w.kinds ms).2 ≠ 0 then (⟨[], [], []⟩, (kindsOf w.kinds ms).2) else (ms.foldl worldStep w, 0)
end Go.Proofs.Ytfkppbkipbbmaaa

namespace Go.Proofs.Ytfkppbkipbbmaaa
set_option linter.unusedVariables false
def moveA (o : Bool) (m : Move) : AV := .agg [iA m.act, sA m.kind, sA m.field, sA m.name, iA m.value, sA m.new.name, iA m.new.bits, iA m.new.low, sA m.whole.name, fieldsA o m.whole.fields]
abbrev movesA (o o' : Bool) (l : List Move) : AV := .lst o 46 10 (l.map (moveA o'))
instance {o : Bool} {m : Move} : Frz (moveA o m) (moveA false m) := ⟨by unfold moveA; exact Frz.h⟩
end Go.Proofs.Ytfkppbkipbbmaaa

namespace Go.Proofs.Ytfkppbkipbbmaaa
set_option linter.unusedVariables false
theorem field_idx_ps (k : Kind) (name : List UInt8) (hl : k.fields.length ≤ 1099511627776) : PS Try.prog 90 [kindA false k, sA name] (iA (findField k.fields name)) := by
  obtain ⟨kn, fs⟩ := k
  dsimp only at hl ⊢
  refine Spec.of (nt := 21) (res := [.tmp 4]) Try.func90 rfl (by kernel_rfl) rfl rfl rfl fun Sf => ?_
  have hfm : (fs.map fieldA).length = fs.length := List.length_map _
  (repeat refine WF ?_); refine AWP.region ?_; (repeat (first | (refine AOps.gN ?_; first | (refine AOps.g_box ?_; refine AOps.goB ?_)) | refine WO ?_ | refine All.i fun X => ?_ | refine AllY.i fun Y => ?_)); refine AOps.nil ?_; (repeat refine WN ?_)
  (repeat (first | refine WK ?_ | refine All.i fun X => ?_ | refine AllY.i fun Y => ?_))
  refine AWP.lp (fun i : Nat => ⟨[(1, sA name), (8, fieldsA false fs), (9, iA (fs.map fieldA).length), (10, iA i)], Sf⟩) (fun i => i ≤ fs.length ∧ ∀ j (h : j < fs.length), j < i → fs[j].name ≠ name) (fun i => fs.length - i) 0 ⟨Nat.zero_le _, fun j h hj => absurd hj (by omega)⟩ ?_
  rintro i ⟨hi, he⟩
  (repeat (first | refine WK ?_ | refine All.i fun X => ?_ | refine AllY.i fun Y => ?_))
  refine AWP.cond rfl (fun hc => ?_) (fun hc => ?_)
  · have h : i < fs.length := by rw [decide_eq_true_eq, hfm] at hc; omega
    obtain ⟨⟨fn, fb, fl⟩, hf⟩ : ∃ f, fs[i] = f := ⟨_, rfl⟩
    have hat : (fs.map fieldA)[i]? = some (fieldA ⟨fn, fb, fl⟩) := by rw [List.getElem?_map, List.getElem?_eq_getElem h, hf]; rfl
    (repeat (first | refine WK ?_ | refine All.i fun V => ?_ | refine AllY.i fun Y => ?_))
    refine AWP.cond rfl (fun hd => ?_) (fun hd => ?_)
    · have hd : fn = name := by simpa using hd
      (repeat (first | refine WK ?_ | refine All.i fun X => ?_ | refine AllY.i fun Y => ?_))
      (refine AWP.ret ?_; (repeat (first | refine inB_r ?_ | refine andThen_r ?_)); refine retQ_r ?_); refine Ends.ps ?_
      rw [findField_some h (by rw [hf]; exact hd) fun j hj => he j (by omega) hj]
    · have hd : fn ≠ name := by simpa using hd
      (repeat (first | refine WK ?_ | refine All.i fun X => ?_ | refine AllY.i fun Y => ?_))
      refine lp_next (i + 1) ⟨h, fun j h1 h2 => ?_⟩
      by_cases e : j = i
      · subst e; rw [hf]; exact hd
      · exact he j h1 (by omega)
  · have h : ¬ i < fs.length := by rw [decide_eq_false_iff_not, hfm] at hc; omega
    (repeat (first | refine WK ?_ | refine All.i fun X => ?_ | refine AllY.i fun Y => ?_))
    (refine AWP.ret ?_; (repeat (first | refine inB_r ?_ | refine andThen_r ?_)); refine retQ_r ?_); refine Ends.ps ?_
    rw [findField_none fun j hj => he j hj (by omega)]
/-- The first i copied, the rest empty. -/
def kcpL (ks : List Kind) (i : Nat) : List AV := (ks.take i).map (kindA true) ++ List.replicate (ks.length - i) (.agg [sA [], .prim (.slice none 0 0)])
theorem kcpL_len (ks : List Kind) (i : Nat) (h : i ≤ ks.length) : (kcpL ks i).length = ks.length := by simp [kcpL]; omega
theorem kcpL_at {ks : List Kind} {i : Nat} (h : i < ks.length) : (kcpL ks i)[i]? = some (.agg [sA [], .prim (.slice none 0 0)]) := by
  unfold kcpL
  rw [List.getElem?_append_right (by simp; omega), List.getElem?_replicate, if_pos (by simp; omega)]
theorem kcpL_set {ks : List Kind} {i : Nat} (h : i < ks.length) : (kcpL ks i).set i (kindA true ks[i]) = kcpL ks (i + 1) := by
  unfold kcpL
  rw [List.set_append_right _ _ (by simp; omega), List.length_map, List.length_take, Nat.min_eq_left (by omega), Nat.sub_self]
  rw [show ks.length - i = (ks.length - (i + 1)) + 1 from by omega, List.replicate_succ, List.set_cons_zero]
  rw [List.take_succ_eq_append_getElem h, List.map_append, List.append_assoc]
  rfl
theorem kindCopy_ps (ks : List Kind) (hl : ks.length ≤ 1099511627776) (hf : ∀ k ∈ ks, k.fields.length ≤ 1099511627776) : PS Try.prog 61 [kindsA false false ks] (kindsA true true ks) := by
  refine Spec.of (nt := 27) (res := [.tmp 2]) Try.func61 rfl (by kernel_rfl) rfl rfl rfl fun Sf => ?_
  have hkm : (ks.map (kindA false)).length = ks.length := List.length_map _
  have hz0 : List.replicate (ks.map (kindA false)).length (.agg [sA [], .prim (.slice none 0 0)]) = kcpL ks 0 := by simp [kcpL]
  (repeat (first | (refine AOps.gN ?_; first | (refine AOps.g_make ?_; refine AOps.goM ((.agg [sA [], .prim (.slice none 0 0)])) fun K => ?_)) | refine WK ?_ | refine All.i fun X => ?_ | refine AllY.i fun Y => ?_))
  rw [hz0]
  refine AWP.lp2 (fun (i : Nat) (M : List AV) => ⟨[(3, .sl K 0 (ks.map (kindA false)).length), (9, kindsA false false ks), (10, iA (ks.map (kindA false)).length), (11, iA i)], (K, .row 44 2 M) :: Sf⟩) (fun i M => i ≤ ks.length ∧ M = kcpL ks i) (fun i _ => ks.length - i) 0 _ ⟨Nat.zero_le _, rfl⟩ ?_
  rintro i M ⟨hi, hM⟩
  (repeat (first | refine WK ?_ | refine All.i fun X => ?_ | refine AllY.i fun Y => ?_))
  refine AWP.cond rfl (fun hc => ?_) (fun hc => ?_)
  · have h : i < ks.length := by rw [decide_eq_true_eq, hkm] at hc; omega
    have hset := kcpL_set h
    have hMat : M[i]? = some (.agg [sA [], .prim (.slice none 0 0)]) := by rw [hM]; exact kcpL_at h
    have hMl : M.length = ks.length := by rw [hM]; exact kcpL_len ks i hi
    have hfl := hf _ (List.getElem_mem h)
    obtain ⟨⟨kn, fs⟩, hk⟩ : ∃ k, ks[i] = k := ⟨_, rfl⟩
    rw [hk] at hset hfl
    dsimp only at hfl
    have hat : (ks.map (kindA false))[i]? = some (kindA false ⟨kn, fs⟩) := by rw [List.getElem?_map, List.getElem?_eq_getElem h, hk]; rfl
    have hil : i < (ks.map (kindA false)).length := by omega
    have hfm : (fs.map fieldA).length = fs.length := List.length_map _
    (repeat (first | refine WK ?_ | refine All.i fun V => ?_ | refine AllY.i fun Y => ?_))
    refine AWP.rs fun Y => ?_
    (repeat refine WF ?_); refine AWP.region_run (by kernel_rfl) (by kernel_rfl) ?_; (repeat (first | (refine RGo.gN ?_; first | refine RGo.s (W.appN (by rw [hfm]; omega) (by rw [hfm]; unfold maxLen; omega) rfl rfl (by exact At.f)) rfl ?_) | (refine RGo.gQ ?_; first | refine RGo.s (W.appN (by rw [hfm]; omega) (by rw [hfm]; unfold maxLen; omega) rfl rfl (by exact At.f)) rfl ?_) | refine RK ?_ | refine RGo.nil (by kernel_rfl) ?_))
    (repeat refine WF ?_)
    have hMs : (M.set i (.agg [sA kn, .sl Y 0 (fs.map fieldA).length]))[i]? = some (.agg [sA kn, .sl Y 0 (fs.map fieldA).length]) := by rw [List.getElem?_set_self (by omega)]
    refine AWP.closeIn (X := Y) (Y := K) .here (.next (.next .here)) rfl rfl (Hos.at hMs (.agg (.tail (.head .here)))) ?_
    rw [List.set_set]
    (repeat (first | refine WK ?_ | refine All.i fun X => ?_ | refine AllY.i fun Y => ?_))
    refine lp_next2 (i + 1) _ ⟨h, ?_⟩
    rw [hM]; exact hset
  · have h : i = ks.length := by rw [decide_eq_false_iff_not, hkm] at hc; omega
    subst h
    have hfin : kcpL ks ks.length = ks.map (kindA true) := by simp [kcpL]
    rw [hfin] at hM
    subst hM
    (repeat (first | refine WK ?_ | refine All.i fun X => ?_ | refine AllY.i fun Y => ?_))
    (refine AWP.ret ?_; (repeat (first | refine inB_r ?_ | refine andThen_r ?_)); refine retQ_r ?_)
    exact ⟨[.sl K 0 (ks.map (kindA false)).length], [kindsA true true ks], _, [], .cons (.tmp rfl) rfl .nil, .cons (.cell (.sl (p := 0) .here (by simp))) .nil, by exact Sub.f, rfl, rfl⟩
end Go.Proofs.Ytfkppbkipbbmaaa

namespace Go.Proofs.Ytfkppbkipbbmaaa
set_option linter.unusedVariables false
theorem chOk_int (s : List UInt8) (i : Nat) : chOk s i = (decide ((97 : Int) ≤ (s.getD i 0).toNat) && decide (((s.getD i 0).toNat : Int) ≤ 122) || decide ((0 : Int) < i) && decide ((48 : Int) ≤ (s.getD i 0).toNat) && decide (((s.getD i 0).toNat : Int) ≤ 57)) := by
  have h : ∀ a b : UInt8, decide (a ≤ b) = decide ((a.toNat : Int) ≤ b.toNat) := fun a b => by simp [UInt8.le_iff_toNat_le]
  have h0 : decide (0 < i) = decide ((0 : Int) < i) := by simp
  simp only [chOk, lowc, digc, h, h0, Bool.and_assoc]
  rfl
theorem name_ps (s : List UInt8) : PS Try.prog 122 [sA s] (bA (nameOk s)) := by
  refine Spec.of (nt := 41) (res := [.tmp 2]) Try.func122 rfl (by kernel_rfl) rfl rfl rfl fun Sf => ?_
  (repeat (first | refine WK ?_ | refine All.i fun X => ?_ | refine AllY.i fun Y => ?_))
  refine AWP.cond rfl (fun hb => ?_) (fun hb => ?_)
  · (repeat (first | refine WK ?_ | refine All.i fun X => ?_ | refine AllY.i fun Y => ?_))
    (refine AWP.ret ?_; (repeat (first | refine inB_r ?_ | refine andThen_r ?_)); refine retQ_r ?_)
    refine Ends.plain rfl rfl (by exact Sub.f) ⟨?_, rfl⟩
    rw [nameOk_long s (by simp only [Bool.or_eq_true, decide_eq_true_eq] at hb; omega)]
  have hb1 : s.length ≠ 0 ∧ s.length ≤ 16 := by simp only [Bool.or_eq_false_iff, decide_eq_false_iff_not] at hb; omega
  (repeat (first | refine AWP.loopR (fun i : Nat => ⟨[(0, sA s), (14, iA s.length), (15, iA i)], Sf⟩) (fun i => i ≤ s.length ∧ ∀ j, j < i → chOk s j = true) (fun i => s.length - i) 0 ⟨by omega, by omega⟩ ⟨.cons rfl (.cons rfl (.cons rfl .nil)), List.Sublist.refl _⟩ ?_ | refine WK ?_ | refine All.i fun X => ?_ | refine AllY.i fun Y => ?_))
  rintro i ⟨hi, hn⟩
  (repeat (first | refine WK ?_ | refine All.i fun X => ?_ | refine AllY.i fun Y => ?_))
  refine AWP.cond rfl (fun hb => ?_) (fun hb => ?_)
  · have h : i < s.length := by simpa using hb
    (repeat (first | (refine AOps.gN ?_; first | refine AOps.p (W.idxStr rfl rfl rfl h) rfl ?_) | refine WK ?_ | refine All.i fun X => ?_ | refine AllY.i fun Y => ?_))
    refine AWP.cond rfl (fun hc => ?_) (fun hc => ?_)
    · (repeat (first | refine WK ?_ | refine All.i fun X => ?_ | refine AllY.i fun Y => ?_))
      (refine AWP.ret ?_; (repeat (first | refine inB_r ?_ | refine andThen_r ?_)); refine retQ_r ?_)
      refine Ends.plain rfl rfl (by exact Sub.f) ⟨?_, rfl⟩
      rw [← chOk_int] at hc
      rw [nameOk_no s i h (by simpa using hc)]
    · (repeat (first | refine WK ?_ | refine All.i fun X => ?_ | refine AllY.i fun Y => ?_))
      refine ⟨i + 1, ⟨by omega, fun j hj => ?_⟩, by omega, .cons rfl (.cons rfl (.cons rfl .nil)), by exact Sub.f⟩
      rw [← chOk_int] at hc
      by_cases e : j = i
      · subst e; simpa using hc
      · exact hn j (by omega)
  · have h : ¬ i < s.length := by simpa using hb
    (repeat (first | refine WK ?_ | refine All.i fun X => ?_ | refine AllY.i fun Y => ?_))
    (refine AWP.ret ?_; (repeat (first | refine inB_r ?_ | refine andThen_r ?_)); refine retQ_r ?_)
    refine Ends.plain rfl rfl (by exact Sub.f) ⟨?_, rfl⟩
    rw [nameOk_yes s (by omega) hb1.2 fun j hj => hn j (by omega)]
end Go.Proofs.Ytfkppbkipbbmaaa

namespace Go.Proofs.Ytfkppbkipbbmaaa
set_option linter.unusedVariables false
theorem field_ps (f : Field) : PS Try.prog 121 [fieldA f] (iA (fieldErr f)) := by
  refine Spec.of (nt := 27) (res := [.tmp 2]) Try.func121 rfl (by kernel_rfl) rfl rfl rfl fun Sf => ?_
  (repeat (first | (refine AOps.gN ?_; first | refine AOps.p (W.call1 rfl (name_ps _) rfl) rfl ?_) | refine WK ?_ | refine All.i fun X => ?_ | refine AllY.i fun Y => ?_))
  refine AWP.cond rfl (fun hb => ?_) (fun hb => ?_)
  · (repeat (first | refine WK ?_ | refine All.i fun X => ?_ | refine AllY.i fun Y => ?_))
    (refine AWP.ret ?_; (repeat (first | refine inB_r ?_ | refine andThen_r ?_)); refine retQ_r ?_)
    refine Ends.plain rfl rfl (by exact Sub.f) ⟨?_, rfl⟩
    rw [fieldErr_no f fun hn hk => ?_]
    simp only [hn, Bool.not_true, Bool.false_or, Bool.or_eq_true, decide_eq_true_eq] at hb
    omega
  · (repeat (first | refine WK ?_ | refine All.i fun X => ?_ | refine AllY.i fun Y => ?_))
    (refine AWP.ret ?_; (repeat (first | refine inB_r ?_ | refine andThen_r ?_)); refine retQ_r ?_)
    refine Ends.plain rfl rfl (by exact Sub.f) ⟨?_, rfl⟩
    simp only [Bool.or_eq_false_iff, Bool.not_eq_false', decide_eq_false_iff_not] at hb
    rw [fieldErr_ok f hb.1.1.1.1 (by omega)]
end Go.Proofs.Ytfkppbkipbbmaaa

namespace Go.Proofs.Ytfkppbkipbbmaaa
set_option linter.unusedVariables false
theorem one_ps (k : Kind) : PS Try.prog 97 [kindA false k] (iA (oneErr k)) := by
  refine Spec.of (nt := 45) (res := [.tmp 2]) Try.func97 rfl (by kernel_rfl) rfl rfl rfl fun Sf => ?_
  (repeat (first | (refine AOps.gN ?_; first | refine AOps.p (W.call1 rfl (name_ps _) rfl) rfl ?_ | (refine AOps.rs fun X1 => ?_; refine AOps.s (W.box rfl .here rfl) rfl ?_)) | refine WK ?_ | refine All.i fun X => ?_ | refine AllY.i fun Y => ?_))
  refine AWP.cond rfl (fun hb => ?_) (fun hb => ?_)
  · (repeat (first | refine WK ?_ | refine All.i fun X => ?_ | refine AllY.i fun Y => ?_))
    (refine AWP.ret ?_; (repeat (first | refine inB_r ?_ | refine andThen_r ?_)); refine retQ_r ?_)
    refine Ends.plain rfl rfl (by exact Sub.f) ⟨?_, rfl⟩
    have hb : nameOk k.name = false := by simpa using hb
    rw [show oneErr k = 3 from by simp [oneErr, hb]]
  have hn : nameOk k.name = true := by simpa using hb
  (repeat (first | refine WK ?_ | refine All.i fun X => ?_ | refine AllY.i fun Y => ?_))
  refine AWP.cond rfl (fun hb => ?_) (fun hb => ?_)
  · (repeat (first | refine WK ?_ | refine All.i fun X => ?_ | refine AllY.i fun Y => ?_))
    (refine AWP.ret ?_; (repeat (first | refine inB_r ?_ | refine andThen_r ?_)); refine retQ_r ?_)
    refine Ends.plain rfl rfl (by exact Sub.f) ⟨?_, rfl⟩
    have hb : 8 < k.fields.length := by rw [decide_eq_true_eq, List.length_map] at hb; omega
    rw [show oneErr k = 2 from by simp [oneErr, hn, hb]]
  have hl : k.fields.length ≤ 8 := by rw [decide_eq_false_iff_not, List.length_map] at hb; omega
  have e1 : oneErr k = fieldsErr [] k.fields := by simp [oneErr, hn]; omega
  (repeat (first | refine AWP.loopR (fun i : Nat => ⟨[(1, .ptr X1 0 0), (17, fieldsA false k.fields), (18, iA (k.fields.map fieldA).length), (19, iA i)], (X1, .row 44 2 [kindA false k]) :: Sf⟩) (fun i => i ≤ k.fields.length ∧ fieldsErr [] k.fields = fieldsErr (k.fields.take i) (k.fields.drop i)) (fun i => k.fields.length - i) 0 ⟨by omega, rfl⟩ ⟨.cons rfl (.cons rfl (.cons rfl (.cons rfl .nil))), by exact Sub.f⟩ ?_ | refine WK ?_ | refine All.i fun X => ?_ | refine AllY.i fun Y => ?_))
  rintro i ⟨hi, he⟩
  (repeat (first | refine WK ?_ | refine All.i fun X => ?_ | refine AllY.i fun Y => ?_))

  refine AWP.cond rfl (fun hb => ?_) (fun hb => ?_)
  · have h : i < k.fields.length := by simpa using hb
    (repeat (first | (refine AOps.gN ?_; first | refine AOps.p (W.idxL rfl rfl rfl (map_at _ h)) rfl ?_ | refine AOps.p (W.call1 rfl (field_ps _) rfl) rfl ?_) | refine WK ?_ | refine All.i fun X => ?_ | refine AllY.i fun Y => ?_))
    refine AWP.cond rfl (fun hc => ?_) (fun hc => ?_)
    · have hc : fieldErr k.fields[i] ≠ 0 := by simpa using hc
      (repeat (first | refine WK ?_ | refine All.i fun X => ?_ | refine AllY.i fun Y => ?_))
      (refine AWP.ret ?_; (repeat (first | refine inB_r ?_ | refine andThen_r ?_)); refine retQ_r ?_)
      refine Ends.plain rfl rfl (by exact Sub.f) ⟨?_, rfl⟩
      rw [e1, he, fieldsErr_at h, fieldsErr_bad hc]
      rfl
    have hc : fieldErr k.fields[i] = 0 := by simpa using hc
    have hmt : ((k.fields.map fieldA).take i).length = i := by simp; omega
    (repeat (first | (refine AOps.gN ?_; first | refine AOps.p (W.hiL rfl rfl rfl (by simp; omega)) rfl ?_) | refine AWP.loopR (fun j : Nat => ⟨[(1, .ptr X1 0 0), (17, fieldsA false k.fields), (18, iA (k.fields.map fieldA).length), (19, iA i), (3, iA i), (4, .ptr X 0 0), (32, .lst false 41 3 ((k.fields.map fieldA).take i)), (33, iA ((k.fields.map fieldA).take i).length), (34, iA j)], (X, .row 41 3 [fieldA k.fields[i]]) :: (X1, .row 44 2 [kindA false k]) :: Sf⟩) (fun j => j ≤ i ∧ ∀ q (hq : q < k.fields.length), q < j → k.fields[q].name ≠ k.fields[i].name) (fun j => i - j) 0 ⟨by omega, by omega⟩ ⟨.cons rfl (.cons rfl (.cons rfl (.cons rfl (.cons rfl (.cons rfl (.cons rfl (.cons rfl (.cons rfl .nil)))))))), by exact Sub.f⟩ ?_ | refine WK ?_ | refine All.i fun X => ?_ | refine AllY.i fun Y => ?_))
    rintro j ⟨hj, hne⟩
    (repeat (first | refine WK ?_ | refine All.i fun X => ?_ | refine AllY.i fun Y => ?_))
    refine AWP.cond rfl (fun hd => ?_) (fun hd => ?_)
    · have hd : j < i := by rw [hmt] at hd; simpa using hd
      have hat : ((k.fields.map fieldA).take i)[j]? = some (fieldA (k.fields[j]'(by omega))) := by rw [List.getElem?_take_of_lt hd]; exact map_at _ _
      (repeat (first | (refine AOps.gN ?_; first | refine AOps.p (W.idxL rfl rfl rfl hat) rfl ?_) | refine WK ?_ | refine All.i fun X => ?_ | refine AllY.i fun Y => ?_))
      refine AWP.cond rfl (fun hq => ?_) (fun hq => ?_)
      · have hq : (k.fields[j]'(by omega)).name = k.fields[i].name := by simpa using hq
        (repeat (first | refine WK ?_ | refine All.i fun X => ?_ | refine AllY.i fun Y => ?_))
        (refine AWP.ret ?_; (repeat (first | refine inB_r ?_ | refine andThen_r ?_)); refine retQ_r ?_)
        refine Ends.plain rfl rfl (by exact Sub.f) ⟨?_, rfl⟩
        rw [e1, he, fieldsErr_at h, fieldsErr_twice hc (j := j) (by simp; omega) (by simpa using hq)]
      · have hq : (k.fields[j]'(by omega)).name ≠ k.fields[i].name := by simpa using hq
        (repeat (first | refine WK ?_ | refine All.i fun X => ?_ | refine AllY.i fun Y => ?_))
        refine ⟨j + 1, ⟨by omega, fun q hq1 hq2 => ?_⟩, by omega, .cons rfl (.cons rfl (.cons rfl (.cons rfl (.cons rfl (.cons rfl (.cons rfl (.cons rfl (.cons rfl .nil)))))))), by exact Sub.f⟩
        by_cases e : q = j
        · subst e; exact hq
        · exact hne q hq1 (by omega)
    · have hd : ¬ j < i := by rw [hmt] at hd; simpa using hd
      (repeat (first | refine WK ?_ | refine All.i fun X => ?_ | refine AllY.i fun Y => ?_))
      refine ⟨i + 1, ⟨by omega, ?_⟩, by omega, .cons rfl (.cons rfl (.cons rfl (.cons rfl .nil))), by exact Sub.f⟩
      rw [he, fieldsErr_at h, fieldsErr_next hc fun q hq => ?_, List.take_add_one, List.getElem?_eq_getElem h]
      · rfl
      · simp only [List.getElem_take]
        exact hne q (by simp at hq; omega) (by simp at hq; omega)
  · have h : ¬ i < k.fields.length := by simpa using hb
    (repeat (first | refine WK ?_ | refine All.i fun X => ?_ | refine AllY.i fun Y => ?_))
    (refine AWP.ret ?_; (repeat (first | refine inB_r ?_ | refine andThen_r ?_)); refine retQ_r ?_)
    refine Ends.plain rfl rfl (by exact Sub.f) ⟨?_, rfl⟩
    rw [e1, he, fieldsErr_end (by omega)]
end Go.Proofs.Ytfkppbkipbbmaaa

namespace Go.Proofs.Ytfkppbkipbbmaaa
set_option linter.unusedVariables false
theorem check_ps (l : List Kind) : PS Try.prog 60 [kindsA false false l] (iA (checkErr l)) := by
  refine Spec.of (nt := 29) (res := [.tmp 2]) Try.func60 rfl (by kernel_rfl) rfl rfl rfl fun Sf => ?_
  (repeat (first | refine WK ?_ | refine All.i fun X => ?_ | refine AllY.i fun Y => ?_))
  refine AWP.cond rfl (fun hb => ?_) (fun hb => ?_)
  · (repeat (first | refine WK ?_ | refine All.i fun X => ?_ | refine AllY.i fun Y => ?_))
    (refine AWP.ret ?_; (repeat (first | refine inB_r ?_ | refine andThen_r ?_)); refine retQ_r ?_)
    refine Ends.plain rfl rfl (by exact Sub.f) ⟨?_, rfl⟩
    have hb : 16 < l.length := by rw [decide_eq_true_eq, List.length_map] at hb; omega
    rw [show checkErr l = 2 from by simp [checkErr, hb]]
  have hl : l.length ≤ 16 := by rw [decide_eq_false_iff_not, List.length_map] at hb; omega
  have e1 : checkErr l = kindsErr [] l := by simp [checkErr]; omega
  (repeat (first | refine AWP.loopR (fun i : Nat => ⟨[(0, kindsA false false l), (9, kindsA false false l), (10, iA (l.map (kindA false)).length), (11, iA i)], Sf⟩) (fun i => i ≤ l.length ∧ kindsErr [] l = kindsErr (l.take i) (l.drop i)) (fun i => l.length - i) 0 ⟨by omega, rfl⟩ ⟨.cons rfl (.cons rfl (.cons rfl (.cons rfl .nil))), by exact Sub.f⟩ ?_ | refine WK ?_ | refine All.i fun X => ?_ | refine AllY.i fun Y => ?_))
  rintro i ⟨hi, he⟩
  (repeat (first | refine WK ?_ | refine All.i fun X => ?_ | refine AllY.i fun Y => ?_))
  refine AWP.cond rfl (fun hb => ?_) (fun hb => ?_)
  · have h : i < l.length := by simpa using hb
    (repeat (first | (refine AOps.gN ?_; first | refine AOps.p (W.idxL rfl rfl rfl (map_at _ h)) rfl ?_ | refine AOps.p (W.call1 rfl (one_ps _) rfl) rfl ?_) | refine WK ?_ | refine All.i fun X => ?_ | refine AllY.i fun Y => ?_))
    refine AWP.cond rfl (fun hc => ?_) (fun hc => ?_)
    · have hc : oneErr l[i] ≠ 0 := by simpa using hc
      (repeat (first | refine WK ?_ | refine All.i fun X => ?_ | refine AllY.i fun Y => ?_))
      (refine AWP.ret ?_; (repeat (first | refine inB_r ?_ | refine andThen_r ?_)); refine retQ_r ?_)
      refine Ends.plain rfl rfl (by exact Sub.f) ⟨?_, rfl⟩
      rw [e1, he, kindsErr_at h, kindsErr_bad hc]
      rfl
    have hc : oneErr l[i] = 0 := by simpa using hc
    have hf : PS Try.prog 89 [.lst false 44 2 ((l.map (kindA false)).take i), sA l[i].name] (iA (findKind (l.take i) l[i].name)) := by
      have := find_ps (l.take i) l[i].name (by simp; omega)
      simpa only [kindsA, List.map_take] using this
    (repeat (first | refine WK ?_ | refine All.i fun X => ?_ | refine AllY.i fun Y => ?_))
    (repeat refine WF ?_); refine AWP.region_run (by kernel_rfl) (by kernel_rfl) ?_; (repeat (first | (refine RGo.gN ?_; first | refine RGo.p (W.hiL rfl rfl rfl (by simp; omega)) rfl ?_ | refine RGo.p (W.call2 rfl rfl hf rfl) rfl ?_) | (refine RGo.gQ ?_; first | refine RGo.p (W.hiL rfl rfl rfl (by simp; omega)) rfl ?_ | refine RGo.p (W.call2 rfl rfl hf rfl) rfl ?_) | refine RK ?_ | refine RGo.nil (by kernel_rfl) ?_))
    (repeat (first | refine WK ?_ | refine All.i fun X => ?_ | refine AllY.i fun Y => ?_))
    refine AWP.cond rfl (fun hd => ?_) (fun hd => ?_)
    · have hd : 0 ≤ findKind (l.take i) l[i].name := by simpa using hd
      (repeat (first | refine WK ?_ | refine All.i fun X => ?_ | refine AllY.i fun Y => ?_))
      (refine AWP.ret ?_; (repeat (first | refine inB_r ?_ | refine andThen_r ?_)); refine retQ_r ?_)
      refine Ends.plain rfl rfl (by exact Sub.f) ⟨?_, rfl⟩
      rw [e1, he, kindsErr_at h, kindsErr_twice hc hd]
    · have hd : findKind (l.take i) l[i].name < 0 := by simpa using hd
      (repeat (first | refine WK ?_ | refine All.i fun X => ?_ | refine AllY.i fun Y => ?_))
      refine ⟨i + 1, ⟨by omega, ?_⟩, by omega, .cons rfl (.cons rfl (.cons rfl (.cons rfl .nil))), by exact Sub.f⟩
      rw [he, kindsErr_at h, kindsErr_next hc hd, List.take_add_one, List.getElem?_eq_getElem h]
      rfl
  · have h : ¬ i < l.length := by simpa using hb
    (repeat (first | refine WK ?_ | refine All.i fun X => ?_ | refine AllY.i fun Y => ?_))
    (refine AWP.ret ?_; (repeat (first | refine inB_r ?_ | refine andThen_r ?_)); refine retQ_r ?_)
    refine Ends.plain rfl rfl (by exact Sub.f) ⟨?_, rfl⟩
    rw [e1, he, kindsErr_end (by omega)]
end Go.Proofs.Ytfkppbkipbbmaaa

namespace Go.Proofs.Ytfkppbkipbbmaaa
set_option linter.unusedVariables false
theorem eraseIdx_parts {α : Type} {l : List α} {i : Nat} (h : i < l.length) (z : List α) : (l.take i ++ (l.drop (i + 1)).take (l.length - (i + 1)) ++ z).take (i + (l.length - (i + 1))) = l.eraseIdx i := by
  rw [List.take_of_length_le (l := l.drop (i + 1)) (by rw [List.length_drop]; omega), List.eraseIdx_eq_take_drop_succ]
  rw [List.take_append_of_le_length (by simp; omega), List.take_of_length_le (by simp; omega)]
end Go.Proofs.Ytfkppbkipbbmaaa

namespace Go.Proofs.Ytfkppbkipbbmaaa
set_option linter.unusedVariables false
theorem deleteK_sp (X n i : Nat) (l : List AV) (hn : n = l.length) (hi : i < n) (hl : n ≤ 1099511627776) (hfr : FreeL l) (hw : ∀ e ∈ l, e.width = 2) :
    Spec Try.prog 91 [.sl X 0 n, iA i, iA ((i : Int) + 1)] [(X, .row 44 2 l)] fun r S' => r = .lst true 44 2 (l.eraseIdx i) ∧ S' = [] := by
  subst hn
  refine Spec.of (nt := 33) (res := [.tmp 6]) Try.func91 rfl (by kernel_rfl) rfl rfl rfl fun Sf => ?_
  have h1 : ((i : Int) + 1) = ((i + 1 : Nat) : Int) := by omega
  (repeat refine WF ?_); refine AWP.region ?_; (repeat (first | refine WO ?_ | refine All.i fun X => ?_ | refine AllY.i fun Y => ?_)); refine AOps.nil ?_; (repeat refine WN ?_)
  (repeat refine WF ?_); refine AWP.region ?_; (repeat (first | (refine AOps.gN ?_; first | refine AOps.p (W.slice3 (lo := i) (hi := i + 1) (mx := l.length) rfl rfl rfl rfl (by exact At.f) rfl h1 rfl (by omega) (by omega) (Nat.le_refl _)) rfl ?_) | refine WO ?_ | refine All.i fun X => ?_ | refine AllY.i fun Y => ?_)); refine AOps.nil ?_; (repeat refine WN ?_)
  (repeat refine WF ?_); refine AWP.region ?_; (repeat (first | refine WO ?_ | refine All.i fun X => ?_ | refine AllY.i fun Y => ?_)); refine AOps.nil ?_; (repeat refine WN ?_)
  refine AWP.cond_f rfl (decide_eq_false (by omega)) ?_
  (repeat refine WF ?_); refine AWP.region ?_; (repeat (first | refine WO ?_ | refine All.i fun X => ?_ | refine AllY.i fun Y => ?_)); refine AOps.nil ?_; (repeat refine WN ?_)
  have hel : (l.eraseIdx i).length = l.length - 1 := List.length_eraseIdx_of_lt hi
  rcases Nat.lt_or_ge (i + 1) l.length with hj | hj
  · have hp := eraseIdx_parts hi
    (repeat refine WF ?_); refine AWP.region_run (by kernel_rfl) (by kernel_rfl) ?_; (repeat (first | (refine RGo.gN ?_; first | refine RGo.p (W.hi rfl rfl (by exact At.f) rfl (by omega)) rfl ?_ | refine RGo.p (W.slice_lo (lo := i + 1) rfl rfl (by exact At.f) h1 (by omega)) rfl ?_ | refine RGo.s (W.appS (l.length - (i + 1)) (by omega) (by omega) (by omega) hfr hw rfl rfl (by exact At.f)) rfl ?_) | (refine RGo.gQ ?_; first | refine RGo.p (W.hi rfl rfl (by exact At.f) rfl (by omega)) rfl ?_ | refine RGo.p (W.slice_lo (lo := i + 1) rfl rfl (by exact At.f) h1 (by omega)) rfl ?_ | refine RGo.s (W.appS (l.length - (i + 1)) (by omega) (by omega) (by omega) hfr hw rfl rfl (by exact At.f)) rfl ?_) | refine RK ?_ | refine RGo.nil (by kernel_rfl) ?_))
    rw [Nat.zero_add]
    have hln : i + (l.length - (i + 1)) = l.length - 1 := by omega
    have hLl : (l.take i ++ (l.drop (i + 1)).take (l.length - (i + 1)) ++ l.drop (i + (l.length - (i + 1)))).length = l.length := by simp only [List.length_append, List.length_take, List.length_drop]; omega
    have hLp := hp (l.drop (i + (l.length - (i + 1))))
    obtain ⟨L', hL'⟩ : ∃ L', l.take i ++ (l.drop (i + 1)).take (l.length - (i + 1)) ++ l.drop (i + (l.length - (i + 1))) = L' := ⟨_, rfl⟩
    rw [hL'] at hLl hLp ⊢
    have key : ∀ Z D, ((L'.take (i + (l.length - (i + 1))) ++ Z) ++ D).take (i + (l.length - (i + 1))) = l.eraseIdx i := fun Z D => by
      rw [List.append_assoc, List.take_append_of_le_length (by rw [List.length_take]; omega), List.take_take, Nat.min_self, hLp]
    (repeat refine WF ?_); refine AWP.region ?_; (repeat (first | (refine AOps.gN ?_; first | refine AOps.p (W.lohi (lo := i + (l.length - (i + 1))) (hi := l.length) rfl rfl rfl (by exact At.f) rfl rfl (by omega) (by omega)) rfl ?_ | refine AOps.s (W.clear rfl (by exact At.f) (by first | exact .inl rfl | exact .inr rfl) rfl (by omega)) rfl ?_) | refine WO ?_ | refine All.i fun X => ?_ | refine AllY.i fun Y => ?_)); refine AOps.nil ?_; (repeat refine WN ?_)
    (repeat refine WF ?_); refine AWP.region ?_; (repeat (first | refine WO ?_ | refine All.i fun X => ?_ | refine AllY.i fun Y => ?_)); refine AOps.nil ?_; (repeat refine WN ?_)
    refine AWP.shrink (X := X) (i + (l.length - (i + 1))) ?_
    rw [Nat.zero_add, key]
    (refine AWP.ret ?_; (repeat (first | refine inB_r ?_ | refine andThen_r ?_)); refine retQ_r ?_)
    exact ⟨[.sl X 0 (i + (l.length - (i + 1)))], [.lst true 44 2 (l.eraseIdx i)], _, [], .cons (.tmp rfl) rfl .nil, .cons (.cell (.sl (p := 0) .here (by rw [hel]; omega))) .nil, by exact Sub.f, rfl, rfl⟩
  · have hie : i = l.length - 1 := by omega
    have hl0 : l.length - (i + 1) = 0 := by omega
    have hle : l.eraseIdx i = l.take i := by rw [List.eraseIdx_eq_take_drop_succ, List.drop_of_length_le (by omega), List.append_nil]
    have key : ∀ Z D, ((l.take i ++ Z) ++ D).take i = l.eraseIdx i := fun Z D => by
      rw [List.append_assoc, List.take_append_of_le_length (by rw [List.length_take]; omega), List.take_take, Nat.min_self, hle]
    (repeat refine WF ?_); refine AWP.region_run (by kernel_rfl) (by kernel_rfl) ?_; (repeat (first | (refine RGo.gN ?_; first | refine RGo.p (W.hi rfl rfl (by exact At.f) rfl (by omega)) rfl ?_ | (refine RGo.p (W.slice_lo (lo := i + 1) rfl rfl (by exact At.f) h1 (by omega)) rfl ?_; rw [hl0]) | refine RGo.p (W.app0 rfl rfl (by exact At.f)) rfl ?_) | (refine RGo.gQ ?_; first | refine RGo.p (W.hi rfl rfl (by exact At.f) rfl (by omega)) rfl ?_ | (refine RGo.p (W.slice_lo (lo := i + 1) rfl rfl (by exact At.f) h1 (by omega)) rfl ?_; rw [hl0]) | refine RGo.p (W.app0 rfl rfl (by exact At.f)) rfl ?_) | refine RK ?_ | refine RGo.nil (by kernel_rfl) ?_))
    (repeat refine WF ?_); refine AWP.region ?_; (repeat (first | (refine AOps.gN ?_; first | refine AOps.p (W.lohi (lo := i) (hi := l.length) rfl rfl rfl (by exact At.f) rfl rfl (by omega) (by omega)) rfl ?_ | refine AOps.s (W.clear rfl (by exact At.f) (by first | exact .inl rfl | exact .inr rfl) rfl (by omega)) rfl ?_) | refine WO ?_ | refine All.i fun X => ?_ | refine AllY.i fun Y => ?_)); refine AOps.nil ?_; (repeat refine WN ?_)
    (repeat refine WF ?_); refine AWP.region ?_; (repeat (first | refine WO ?_ | refine All.i fun X => ?_ | refine AllY.i fun Y => ?_)); refine AOps.nil ?_; (repeat refine WN ?_)
    refine AWP.shrink (X := X) i ?_
    simp only [Nat.zero_add]
    rw [key]
    (refine AWP.ret ?_; (repeat (first | refine inB_r ?_ | refine andThen_r ?_)); refine retQ_r ?_)
    exact ⟨[.sl X 0 i], [.lst true 44 2 (l.eraseIdx i)], _, [], .cons (.tmp rfl) rfl .nil, .cons (.cell (.sl (p := 0) .here (by rw [hel]; omega))) .nil, by exact Sub.f, rfl, rfl⟩
end Go.Proofs.Ytfkppbkipbbmaaa

namespace Go.Proofs.Ytfkppbkipbbmaaa
set_option linter.unusedVariables false
theorem deleteF_sp (X n i : Nat) (l : List AV) (hn : n = l.length) (hi : i < n) (hl : n ≤ 1099511627776) (hfr : FreeL l) (hw : ∀ e ∈ l, e.width = 3) :
    Spec Try.prog 92 [.sl X 0 n, iA i, iA ((i : Int) + 1)] [(X, .row 41 3 l)] fun r S' => r = .lst true 41 3 (l.eraseIdx i) ∧ S' = [] := by
  subst hn
  refine Spec.of (nt := 33) (res := [.tmp 6]) Try.func92 rfl (by kernel_rfl) rfl rfl rfl fun Sf => ?_
  have h1 : ((i : Int) + 1) = ((i + 1 : Nat) : Int) := by omega
  (repeat refine WF ?_); refine AWP.region ?_; (repeat (first | refine WO ?_ | refine All.i fun X => ?_ | refine AllY.i fun Y => ?_)); refine AOps.nil ?_; (repeat refine WN ?_)
  (repeat refine WF ?_); refine AWP.region ?_; (repeat (first | (refine AOps.gN ?_; first | refine AOps.p (W.slice3 (lo := i) (hi := i + 1) (mx := l.length) rfl rfl rfl rfl (by exact At.f) rfl h1 rfl (by omega) (by omega) (Nat.le_refl _)) rfl ?_) | refine WO ?_ | refine All.i fun X => ?_ | refine AllY.i fun Y => ?_)); refine AOps.nil ?_; (repeat refine WN ?_)
  (repeat refine WF ?_); refine AWP.region ?_; (repeat (first | refine WO ?_ | refine All.i fun X => ?_ | refine AllY.i fun Y => ?_)); refine AOps.nil ?_; (repeat refine WN ?_)
  refine AWP.cond_f rfl (decide_eq_false (by omega)) ?_
  (repeat refine WF ?_); refine AWP.region ?_; (repeat (first | refine WO ?_ | refine All.i fun X => ?_ | refine AllY.i fun Y => ?_)); refine AOps.nil ?_; (repeat refine WN ?_)
  have hel : (l.eraseIdx i).length = l.length - 1 := List.length_eraseIdx_of_lt hi
  rcases Nat.lt_or_ge (i + 1) l.length with hj | hj
  · have hp := eraseIdx_parts hi
    (repeat refine WF ?_); refine AWP.region_run (by kernel_rfl) (by kernel_rfl) ?_; (repeat (first | (refine RGo.gN ?_; first | refine RGo.p (W.hi rfl rfl (by exact At.f) rfl (by omega)) rfl ?_ | refine RGo.p (W.slice_lo (lo := i + 1) rfl rfl (by exact At.f) h1 (by omega)) rfl ?_ | refine RGo.s (W.appS (l.length - (i + 1)) (by omega) (by omega) (by omega) hfr hw rfl rfl (by exact At.f)) rfl ?_) | (refine RGo.gQ ?_; first | refine RGo.p (W.hi rfl rfl (by exact At.f) rfl (by omega)) rfl ?_ | refine RGo.p (W.slice_lo (lo := i + 1) rfl rfl (by exact At.f) h1 (by omega)) rfl ?_ | refine RGo.s (W.appS (l.length - (i + 1)) (by omega) (by omega) (by omega) hfr hw rfl rfl (by exact At.f)) rfl ?_) | refine RK ?_ | refine RGo.nil (by kernel_rfl) ?_))
    rw [Nat.zero_add]
    have hln : i + (l.length - (i + 1)) = l.length - 1 := by omega
    have hLl : (l.take i ++ (l.drop (i + 1)).take (l.length - (i + 1)) ++ l.drop (i + (l.length - (i + 1)))).length = l.length := by simp only [List.length_append, List.length_take, List.length_drop]; omega
    have hLp := hp (l.drop (i + (l.length - (i + 1))))
    obtain ⟨L', hL'⟩ : ∃ L', l.take i ++ (l.drop (i + 1)).take (l.length - (i + 1)) ++ l.drop (i + (l.length - (i + 1))) = L' := ⟨_, rfl⟩
    rw [hL'] at hLl hLp ⊢
    have key : ∀ Z D, ((L'.take (i + (l.length - (i + 1))) ++ Z) ++ D).take (i + (l.length - (i + 1))) = l.eraseIdx i := fun Z D => by
      rw [List.append_assoc, List.take_append_of_le_length (by rw [List.length_take]; omega), List.take_take, Nat.min_self, hLp]
    (repeat refine WF ?_); refine AWP.region ?_; (repeat (first | (refine AOps.gN ?_; first | refine AOps.p (W.lohi (lo := i + (l.length - (i + 1))) (hi := l.length) rfl rfl rfl (by exact At.f) rfl rfl (by omega) (by omega)) rfl ?_ | refine AOps.s (W.clear rfl (by exact At.f) (by first | exact .inl rfl | exact .inr rfl) rfl (by omega)) rfl ?_) | refine WO ?_ | refine All.i fun X => ?_ | refine AllY.i fun Y => ?_)); refine AOps.nil ?_; (repeat refine WN ?_)
    (repeat refine WF ?_); refine AWP.region ?_; (repeat (first | refine WO ?_ | refine All.i fun X => ?_ | refine AllY.i fun Y => ?_)); refine AOps.nil ?_; (repeat refine WN ?_)
    refine AWP.shrink (X := X) (i + (l.length - (i + 1))) ?_
    rw [Nat.zero_add, key]
    (refine AWP.ret ?_; (repeat (first | refine inB_r ?_ | refine andThen_r ?_)); refine retQ_r ?_)
    exact ⟨[.sl X 0 (i + (l.length - (i + 1)))], [.lst true 41 3 (l.eraseIdx i)], _, [], .cons (.tmp rfl) rfl .nil, .cons (.cell (.sl (p := 0) .here (by rw [hel]; omega))) .nil, by exact Sub.f, rfl, rfl⟩
  · have hie : i = l.length - 1 := by omega
    have hl0 : l.length - (i + 1) = 0 := by omega
    have hle : l.eraseIdx i = l.take i := by rw [List.eraseIdx_eq_take_drop_succ, List.drop_of_length_le (by omega), List.append_nil]
    have key : ∀ Z D, ((l.take i ++ Z) ++ D).take i = l.eraseIdx i := fun Z D => by
      rw [List.append_assoc, List.take_append_of_le_length (by rw [List.length_take]; omega), List.take_take, Nat.min_self, hle]
    (repeat refine WF ?_); refine AWP.region_run (by kernel_rfl) (by kernel_rfl) ?_; (repeat (first | (refine RGo.gN ?_; first | refine RGo.p (W.hi rfl rfl (by exact At.f) rfl (by omega)) rfl ?_ | (refine RGo.p (W.slice_lo (lo := i + 1) rfl rfl (by exact At.f) h1 (by omega)) rfl ?_; rw [hl0]) | refine RGo.p (W.app0 rfl rfl (by exact At.f)) rfl ?_) | (refine RGo.gQ ?_; first | refine RGo.p (W.hi rfl rfl (by exact At.f) rfl (by omega)) rfl ?_ | (refine RGo.p (W.slice_lo (lo := i + 1) rfl rfl (by exact At.f) h1 (by omega)) rfl ?_; rw [hl0]) | refine RGo.p (W.app0 rfl rfl (by exact At.f)) rfl ?_) | refine RK ?_ | refine RGo.nil (by kernel_rfl) ?_))
    (repeat refine WF ?_); refine AWP.region ?_; (repeat (first | (refine AOps.gN ?_; first | refine AOps.p (W.lohi (lo := i) (hi := l.length) rfl rfl rfl (by exact At.f) rfl rfl (by omega) (by omega)) rfl ?_ | refine AOps.s (W.clear rfl (by exact At.f) (by first | exact .inl rfl | exact .inr rfl) rfl (by omega)) rfl ?_) | refine WO ?_ | refine All.i fun X => ?_ | refine AllY.i fun Y => ?_)); refine AOps.nil ?_; (repeat refine WN ?_)
    (repeat refine WF ?_); refine AWP.region ?_; (repeat (first | refine WO ?_ | refine All.i fun X => ?_ | refine AllY.i fun Y => ?_)); refine AOps.nil ?_; (repeat refine WN ?_)
    refine AWP.shrink (X := X) i ?_
    simp only [Nat.zero_add]
    rw [key]
    (refine AWP.ret ?_; (repeat (first | refine inB_r ?_ | refine andThen_r ?_)); refine retQ_r ?_)
    exact ⟨[.sl X 0 i], [.lst true 41 3 (l.eraseIdx i)], _, [], .cons (.tmp rfl) rfl .nil, .cons (.cell (.sl (p := 0) .here (by rw [hel]; omega))) .nil, by exact Sub.f, rfl, rfl⟩
end Go.Proofs.Ytfkppbkipbbmaaa

namespace Go.Proofs.Ytfkppbkipbbmaaa
set_option linter.unusedVariables false
/-- Lists of kinds that are not too long. -/
def KsB (ks : List Kind) : Prop := ks.length ≤ 1099511627776 ∧ ∀ k ∈ ks, k.fields.length ≤ 1099511627776
theorem place_ps (ks : List Kind) (m : Move) (hl : KsB ks) : PS Try.prog 53 [kindsA false false ks, moveA false m] (.tup [iA (placeOf ks m).1, iA (placeOf ks m).2.1, iA (placeOf ks m).2.2]) := by
  obtain ⟨hl0, hl1⟩ := hl
  obtain ⟨r, hr⟩ : ∃ r, placeOf ks m = r := ⟨_, rfl⟩
  rw [hr]
  unfold placeOf at hr
  have hfk := find_ps ks m.kind (by omega)
  refine Spec.of (nt := 41) (res := [.tmp 4, .tmp 5, .tmp 6]) Try.func53 rfl (by kernel_rfl) rfl rfl rfl fun Sf => ?_
  (repeat (first | (refine AOps.gN ?_; first | (refine AOps.g_box ?_; refine AOps.goB ?_)) | refine WK ?_ | refine All.i fun X => ?_ | refine AllY.i fun Y => ?_))
  refine AWP.cond rfl (fun hc => ?_) (fun hc => ?_)
  · have hc : m.act < 0 ∨ 6 < m.act := by simpa using hc
    rw [if_pos hc] at hr
    subst hr
    (repeat (first | refine WK ?_ | refine All.i fun X => ?_ | refine AllY.i fun Y => ?_))
    (refine AWP.ret ?_; (repeat (first | refine inB_r ?_ | refine andThen_r ?_)); refine retQ_r ?_)
    exact ⟨[iA 0, iA 0, iA 1], [iA 0, iA 0, iA 1], _, [], .cons (.tmp rfl) rfl (.cons (.tmp rfl) rfl (.cons (.tmp rfl) rfl .nil)), .cons (.cell .same) (.cons (.cell .same) (.cons (.cell .same) .nil)), by exact Sub.f, rfl, rfl⟩
  have hc : ¬ (m.act < 0 ∨ 6 < m.act) := by simpa using hc
  rw [if_neg hc] at hr
  (repeat (first | refine WK ?_ | refine All.i fun X => ?_ | refine AllY.i fun Y => ?_))
  refine AWP.cond rfl (fun hd => ?_) (fun hd => ?_)
  · have hd : m.act = 0 := by simpa using hd
    rw [if_pos hd] at hr
    subst hr
    (repeat (first | refine WK ?_ | refine All.i fun X => ?_ | refine AllY.i fun Y => ?_))
    (refine AWP.ret ?_; (repeat (first | refine inB_r ?_ | refine andThen_r ?_)); refine retQ_r ?_)
    exact ⟨[iA 0, iA 0, iA 0], [iA 0, iA 0, iA 0], _, [], .cons (.tmp rfl) rfl (.cons (.tmp rfl) rfl (.cons (.tmp rfl) rfl .nil)), .cons (.cell .same) (.cons (.cell .same) (.cons (.cell .same) .nil)), by exact Sub.f, rfl, rfl⟩
  have hd : ¬ m.act = 0 := by simpa using hd
  rw [if_neg hd] at hr
  (repeat (first | (refine AOps.gN ?_; first | (refine AOps.g_callf ?_; first | refine AOps.c2 (h := (hfk ..)) (k := ?_))) | refine WK ?_ | refine All.i fun X => ?_ | refine AllY.i fun Y => ?_))
  refine AWP.cond rfl (fun he => ?_) (fun he => ?_)
  · have he : findKind ks m.kind < 0 := by simpa using he
    rw [if_pos he] at hr
    subst hr
    (repeat (first | refine WK ?_ | refine All.i fun X => ?_ | refine AllY.i fun Y => ?_))
    (refine AWP.ret ?_; (repeat (first | refine inB_r ?_ | refine andThen_r ?_)); refine retQ_r ?_)
    exact ⟨[iA 0, iA 0, iA 4], [iA 0, iA 0, iA 4], _, [], .cons (.tmp rfl) rfl (.cons (.tmp rfl) rfl (.cons (.tmp rfl) rfl .nil)), .cons (.cell .same) (.cons (.cell .same) (.cons (.cell .same) .nil)), by exact Sub.f, rfl, rfl⟩
  have he : ¬ findKind ks m.kind < 0 := by simpa using he
  rw [if_neg he] at hr
  obtain ⟨i, hi, k, hk, hkn⟩ := findKind_at (l := ks) (name := m.kind) (by omega)
  rw [hi] at hr ⊢
  (repeat (first | refine WK ?_ | refine All.i fun X => ?_ | refine AllY.i fun Y => ?_))
  refine AWP.cond rfl (fun hf => ?_) (fun hf => ?_)
  · have hf : m.act ≤ 3 := by simpa using hf
    rw [if_pos hf] at hr
    subst hr
    (repeat (first | refine WK ?_ | refine All.i fun X => ?_ | refine AllY.i fun Y => ?_))
    (refine AWP.ret ?_; (repeat (first | refine inB_r ?_ | refine andThen_r ?_)); refine retQ_r ?_)
    exact ⟨[iA i, iA 0, iA 0], [iA i, iA 0, iA 0], _, [], .cons (.tmp rfl) rfl (.cons (.tmp rfl) rfl (.cons (.tmp rfl) rfl .nil)), .cons (.cell .same) (.cons (.cell .same) (.cons (.cell .same) .nil)), by exact Sub.f, rfl, rfl⟩
  have hf : ¬ m.act ≤ 3 := by simpa using hf
  rw [if_neg hf, Int.toNat_natCast, hk] at hr
  dsimp only at hr
  have hat : (ks.map (kindA false))[i]? = some (kindA false k) := by rw [List.getElem?_map, hk]; rfl
  have hff := field_idx_ps k m.field (hl1 k (List.mem_of_getElem? hk))
  (repeat first | refine AOps.nil ?_ | refine WF ?_)
  (repeat refine WF ?_); refine AWP.region_run (by kernel_rfl) (by kernel_rfl) ?_; (repeat (first | (refine RGo.gN ?_; first | (refine RGo.g_callf ?_; first | refine RGo.c2 (h := (hff ..)) (k := ?_))) | (refine RGo.gQ ?_; first | (refine RGo.g_callf ?_; first | refine RGo.c2 (h := (hff ..)) (k := ?_))) | refine RK ?_ | refine RGo.nil (by kernel_rfl) ?_))
  (repeat (first | refine WK ?_ | refine All.i fun X => ?_ | refine AllY.i fun Y => ?_))
  refine AWP.cond rfl (fun hg => ?_) (fun hg => ?_)
  · have hg : findField k.fields m.field < 0 := by simpa using hg
    rw [if_pos hg] at hr
    subst hr
    (repeat (first | refine WK ?_ | refine All.i fun X => ?_ | refine AllY.i fun Y => ?_))
    (refine AWP.ret ?_; (repeat (first | refine inB_r ?_ | refine andThen_r ?_)); refine retQ_r ?_)
    exact ⟨[iA 0, iA 0, iA 4], [iA 0, iA 0, iA 4], _, [], .cons (.tmp rfl) rfl (.cons (.tmp rfl) rfl (.cons (.tmp rfl) rfl .nil)), .cons (.cell .same) (.cons (.cell .same) (.cons (.cell .same) .nil)), by exact Sub.f, rfl, rfl⟩
  · have hg : ¬ findField k.fields m.field < 0 := by simpa using hg
    rw [if_neg hg] at hr
    subst hr
    (repeat (first | refine WK ?_ | refine All.i fun X => ?_ | refine AllY.i fun Y => ?_))
    (refine AWP.ret ?_; (repeat (first | refine inB_r ?_ | refine andThen_r ?_)); refine retQ_r ?_)
    exact ⟨[iA i, iA (findField k.fields m.field), iA 0], [iA i, iA (findField k.fields m.field), iA 0], _, [], .cons (.tmp rfl) rfl (.cons (.tmp rfl) rfl (.cons (.tmp rfl) rfl .nil)), .cons (.cell .same) (.cons (.cell .same) (.cons (.cell .same) .nil)), by exact Sub.f, rfl, rfl⟩
/-- Where a move's place lies. -/
theorem placeOf_at {ks : List Kind} {m : Move} (h : (placeOf ks m).2.2 = 0) : 0 ≤ m.act ∧ m.act ≤ 6 ∧ (m.act = 0 ∧ placeOf ks m = (0, 0, 0) ∨ m.act ≠ 0 ∧ ∃ i k, ks[i]? = some k ∧ k.name = m.kind ∧ findKind ks m.kind = (i : Nat) ∧ (m.act ≤ 3 ∧ placeOf ks m = (((i : Nat) : Int), 0, 0) ∨ 3 < m.act ∧ ∃ j f, k.fields[j]? = some f ∧ f.name = m.field ∧ findField k.fields m.field = (j : Nat) ∧ placeOf ks m = (((i : Nat) : Int), ((j : Nat) : Int), 0))) := by
  obtain ⟨r, hr⟩ : ∃ r, placeOf ks m = r := ⟨_, rfl⟩
  rw [hr] at h ⊢
  unfold placeOf at hr
  split at hr
  · subst hr; cases h
  · rename_i h1
    refine ⟨by omega, by omega, ?_⟩
    split at hr
    · exact .inl ⟨‹_›, hr.symm⟩
    · rename_i h2
      refine .inr ⟨h2, ?_⟩
      split at hr
      · subst hr; cases h
      · rename_i h3
        obtain ⟨i, hi, k, hk, hkn⟩ := findKind_at (l := ks) (name := m.kind) (by omega)
        refine ⟨i, k, hk, hkn, hi, ?_⟩
        rw [hi] at hr
        split at hr
        · exact .inl ⟨‹_›, hr.symm⟩
        · rename_i h4
          rw [Int.toNat_natCast, hk] at hr
          dsimp only at hr
          split at hr
          · subst hr; cases h
          · rename_i h5
            obtain ⟨j, hj, f, hf, hfn⟩ := findField_at (l := k.fields) (name := m.field) (by omega)
            rw [hj] at hr
            exact .inr ⟨by omega, j, f, hf, hfn, hj, hr.symm⟩
end Go.Proofs.Ytfkppbkipbbmaaa

namespace Go.Proofs.Ytfkppbkipbbmaaa
set_option linter.unusedVariables false
theorem field_free (f : Field) : FreeE (fieldA f) := FreeE.agg fun x hx => by
  simp only [List.mem_cons, List.not_mem_nil, or_false] at hx
  rcases hx with rfl | rfl | rfl <;> exact FreeE.prim _
theorem fields_free (l : List Field) : FreeL (l.map fieldA) := fun x hx => by
  obtain ⟨f, _, rfl⟩ := List.mem_map.1 hx
  exact field_free f
theorem lstF_free (t : TypeId) (sz : Nat) (l : List AV) : FreeE (.lst false t sz l) := fun m c bs k => k.1
theorem kind_free (k : Kind) : FreeE (kindA false k) := FreeE.agg fun x hx => by
  simp only [List.mem_cons, List.not_mem_nil, or_false] at hx
  rcases hx with rfl | rfl
  · exact FreeE.prim _
  · exact lstF_free _ _ _
theorem kinds_free (l : List Kind) : FreeL (l.map (kindA false)) := fun x hx => by
  obtain ⟨f, _, rfl⟩ := List.mem_map.1 hx
  exact kind_free f
theorem kinds_frz (o : Bool) (l : List Kind) : AV.frzs (l.map (kindA o)) = l.map (kindA false) := Frzs.h
theorem kinds_set (o : Bool) (l : List Kind) (i : Nat) (k : Kind) : (l.map (kindA o)).set i (kindA o k) = (l.set i k).map (kindA o) := by rw [List.map_set]
theorem fields_set (l : List Field) (i : Nat) (f : Field) : (l.map fieldA).set i (fieldA f) = (l.set i f).map fieldA := by rw [List.map_set]
theorem eraseIdx_map {α β : Type} (f : α → β) : ∀ (l : List α) (i : Nat), (l.map f).eraseIdx i = (l.eraseIdx i).map f
  | [], _ => rfl
  | _ :: _, 0 => rfl
  | a :: l, i + 1 => by simp [eraseIdx_map f l i]
theorem eraseIdx_mapK (l : List Kind) (i : Nat) : (l.map (kindA false)).eraseIdx i = (l.eraseIdx i).map (kindA false) := eraseIdx_map _ l i
set_option maxRecDepth 8000 in
set_option maxHeartbeats 4000000 in
theorem one_mps (ks : List Kind) (m : Move) (hl : KsB ks) (hw : m.whole.fields.length ≤ 1099511627776) : PS Try.prog 54 [kindsA false false ks, moveA false m] (.tup [kindsA false false (stepOf ks m).1, iA (stepOf ks m).2]) := by
  have hpl := place_ps ks m hl
  have hcp := kindCopy_ps ks hl.1 hl.2
  have hcw := kindCopy_ps [m.whole] (by simp) (fun k hk => by rw [List.mem_singleton.1 hk]; exact hw)
  obtain ⟨r, hr⟩ : ∃ r, stepOf ks m = r := ⟨_, rfl⟩
  rw [hr]
  unfold stepOf at hr
  have hkm : (ks.map (kindA true)).length = ks.length := List.length_map _
  refine Spec.of (nt := 120) (res := [.tmp 4, .tmp 5]) Try.func54 rfl (by kernel_rfl) rfl rfl rfl fun Sf => ?_
  by_cases he : (placeOf ks m).2.2 = 0
  · obtain ⟨ha0, ha6, hplc⟩ := placeOf_at he
    rw [if_neg (by simp [he])] at hr
    obtain ⟨pl, hpl'⟩ : ∃ pl, placeOf ks m = pl := ⟨_, rfl⟩
    rw [hpl'] at hpl hr he hplc
    obtain ⟨out, hout⟩ : ∃ out, rawOf ks m pl.1.toNat pl.2.1.toNat = out := ⟨_, rfl⟩
    rw [hout] at hr
    have hck := check_ps out
    obtain ⟨p1, p2, p3⟩ := pl
    dsimp only at he hpl hout hr
    subst he
    obtain ⟨act, mk, mf, mn, mv, new, whole⟩ := m
    dsimp only at ha0 ha6 hplc hw hcw
    (repeat refine WF ?_); refine AWP.region ?_; (repeat (first | (refine AOps.gN ?_; first | (refine AOps.g_box ?_; refine AOps.goB ?_)) | refine WO ?_ | refine All.i fun X => ?_ | refine AllY.i fun Y => ?_)); refine AOps.nil ?_; (repeat refine WN ?_)
    (repeat refine WF ?_); refine AWP.region ?_; (repeat (first | (refine AOps.gN ?_; first | (refine AOps.g_callf ?_; first | refine AOps.c2 (h := (hpl ..)) (k := ?_))) | refine WO ?_ | refine All.i fun X => ?_ | refine AllY.i fun Y => ?_)); refine AOps.nil ?_; (repeat refine WN ?_)
    (repeat refine WF ?_); refine AWP.region ?_; (repeat (first | refine WO ?_ | refine All.i fun X => ?_ | refine AllY.i fun Y => ?_)); refine AOps.nil ?_; (repeat refine WN ?_)
    refine AWP.cond_f rfl rfl ?_
    (repeat first | refine AOps.nil ?_ | refine WF ?_)
    (repeat refine WF ?_); refine AWP.region ?_; (repeat (first | (refine AOps.gN ?_; first | (refine AOps.g_callf ?_; first | refine AOps.t1 (h := hcp) fun K => ?_)) | refine WO ?_ | refine All.i fun X => ?_ | refine AllY.i fun Y => ?_))
    (repeat first | refine AOps.nil ?_ | refine WF ?_)
    (repeat refine WF ?_); refine AWP.region ?_; (repeat (first | refine WO ?_ | refine All.i fun X => ?_ | refine AllY.i fun Y => ?_)); refine AOps.nil ?_; (repeat refine WN ?_)
    refine AWP.joinS (fun b : Nat × Nat × List AV × List Slot => b.2.1 = out.length ∧ (b.2.2.1 = out.map (kindA false) ∧ b.2.2.2 = [] ∨ ∃ Y i k', b.2.2.2 = [(Y, .row 41 3 (k'.fields.map fieldA))] ∧ b.2.2.1 = (ks.map (kindA true)).set i (.agg [sA k'.name, .sl Y 0 (k'.fields.map fieldA).length]) ∧ i < ks.length ∧ out = ks.set i k')) (fun b => ⟨[(9, .sl b.1 0 b.2.1)], b.2.2.2 ++ (b.1, .row 44 2 b.2.2.1) :: Sf⟩) ?_ ?_
    · have hcs : act = 0 ∨ act = 1 ∨ act = 2 ∨ act = 3 ∨ act = 4 ∨ act = 5 ∨ act = 6 := by omega
      rcases hplc with ⟨h0, hp0⟩ | ⟨hn0, i, k, hk, hkn, hki, hplc⟩
      · have h0 : act = 0 := h0
        subst h0
        have hout2 : ks ++ [whole] = out := hout
        have hp1 : p1 = 0 := by injection hp0
        have hp2 : p2 = 0 := by injection hp0 with _ h; injection h
        subst hp1 hp2
        (repeat (first | refine WK ?_ | refine All.i fun X => ?_ | refine AllY.i fun Y => ?_))
        refine AWP.cond_t rfl rfl ?_
        refine AWP.frzRow K (ks.map (kindA false)) (kinds_frz true ks) ?_
        have hb : ((ks.map (kindA true)).length + ([whole].map (kindA false)).length) * 40 ≤ 140737488355328 := by have := hl.1; simp; omega
        have hkl : (ks.map (kindA true)).length = (ks.map (kindA false)).length := by simp
        (repeat (first | (refine AOps.gN ?_; first | (refine AOps.g_callf ?_; first | refine AOps.c1 (h := (hcw ..)) (k := ?_)) | (refine AOps.g_lit ?_; refine AOps.goL (kindA false whole) ?_)) | refine WK ?_ | refine All.i fun X => ?_ | refine AllY.i fun Y => ?_))
        exact jn (Y, (ks.map (kindA true)).length + ([whole].map (kindA false)).length, _, []) ⟨by rw [← hout2]; simp, .inl ⟨by rw [← hout2, List.map_append], rfl⟩⟩
      · have hil : i < ks.length := (List.getElem?_eq_some_iff.1 hk).1
        have hat : (ks.map (kindA true))[i]? = some (kindA true k) := by rw [List.getElem?_map, hk]; rfl
        have hatF : (ks.map (kindA false))[i]? = some (kindA false k) := by rw [List.getElem?_map, hk]; rfl
        have hikm : i < (ks.map (kindA true)).length := by omega
        have hi40 : i ≤ 1099511627776 := by have := hl.1; omega
        have hfl := hl.2 k (List.mem_of_getElem? hk)
        have hfm : (k.fields.map fieldA).length = k.fields.length := List.length_map _
        have hal : act = 1 ∨ act = 2 ∨ act = 3 ∨ act = 4 ∨ act = 5 ∨ act = 6 := by have hn0 : act ≠ 0 := hn0; omega
        have hpi : p1 = (i : Int) := by rcases hplc with ⟨_, h⟩ | ⟨_, _, _, _, _, _, h⟩ <;> injection h
        obtain ⟨kn, kf⟩ := k
        dsimp only at hfl hfm hplc
        subst hpi
        have hout' : rawOf ks ⟨act, mk, mf, mn, mv, new, whole⟩ i p2.toNat = out := hout
        clear hout
        unfold rawOf at hout'
        rw [if_neg hn0, hk] at hout'
        dsimp only at hout'
        have hkset : ∀ k' : Kind, (ks.map (kindA false)).set i (kindA false k') = (ks.set i k').map (kindA false) := fun k' => kinds_set false ks i k'
        have hfz : ∀ k' : Kind, AV.frzs ((ks.map (kindA true)).set i (kindA true k')) = (ks.set i k').map (kindA false) := fun k' => by rw [kinds_set, kinds_frz]
        rcases hal with rfl | rfl | rfl | rfl | rfl | rfl
        · rw [if_pos rfl] at hout'
          (repeat (first | refine WK ?_ | refine All.i fun X => ?_ | refine AllY.i fun Y => ?_))
          refine AWP.cond_f rfl rfl ?_
          (repeat (first | refine WK ?_ | refine All.i fun X => ?_ | refine AllY.i fun Y => ?_))
          refine AWP.cond_t rfl rfl ?_
          refine AWP.frzRow K (ks.map (kindA false)) (kinds_frz true ks) ?_
          have hkm2 : (ks.map (kindA true)).length = (ks.map (kindA false)).length := by simp
          refine AWP.rs fun Y => ?_
          have hdel := (deleteK_sp K (ks.map (kindA true)).length i (ks.map (kindA false)) hkm2 hikm (by have := hl.1; omega) (kinds_free ks) (fun x hx => by obtain ⟨y, _, rfl⟩ := List.mem_map.1 hx; rfl)).used
          (repeat refine WF ?_); refine AWP.region ?_; (repeat (first | (refine AOps.gN ?_; first | (refine AOps.g_callf ?_; first | refine AOps.z3 (h := hdel) (hT := .ls (Y := Y)) (k := ?_))) | refine WO ?_ | refine All.i fun X => ?_ | refine AllY.i fun Y => ?_)); refine AOps.nil ?_; (repeat refine WN ?_)
          (repeat first | refine AOps.nil ?_ | refine WF ?_)
          have hel : ((ks.map (kindA false)).eraseIdx i) = (ks.eraseIdx i).map (kindA false) := (eraseIdx_mapK ks i)
          rw [← hout']
          exact jn (Y, ((ks.map (kindA false)).eraseIdx i).length, _, []) ⟨by dsimp only; rw [hel, List.length_map], .inl ⟨hel, rfl⟩⟩
        · rw [if_neg (by decide), if_pos rfl] at hout'
          (repeat (first | refine WK ?_ | refine All.i fun X => ?_ | refine AllY.i fun Y => ?_))
          refine AWP.cond_f rfl rfl ?_
          (repeat (first | refine WK ?_ | refine All.i fun X => ?_ | refine AllY.i fun Y => ?_))
          refine AWP.cond_f rfl rfl ?_
          (repeat (first | refine WK ?_ | refine All.i fun X => ?_ | refine AllY.i fun Y => ?_))
          refine AWP.cond_t rfl rfl ?_
          refine AWP.frzRow K (ks.map (kindA false)) (kinds_frz true ks) ?_
          (repeat (first | refine WK ?_ | refine All.i fun X => ?_ | refine AllY.i fun Y => ?_))
          rw [← hout']
          exact jn (K, (ks.map (kindA true)).length, _, []) ⟨by simp, .inl ⟨hkset ⟨mn, kf⟩, rfl⟩⟩
        · rw [if_neg (by decide), if_neg (by decide), if_pos rfl] at hout'
          (repeat (first | refine WK ?_ | refine All.i fun X => ?_ | refine AllY.i fun Y => ?_))
          refine AWP.cond_f rfl rfl ?_
          (repeat (first | refine WK ?_ | refine All.i fun X => ?_ | refine AllY.i fun Y => ?_))
          refine AWP.cond_f rfl rfl ?_
          (repeat (first | refine WK ?_ | refine All.i fun X => ?_ | refine AllY.i fun Y => ?_))
          refine AWP.cond_f rfl rfl ?_
          (repeat (first | refine WK ?_ | refine All.i fun X => ?_ | refine AllY.i fun Y => ?_))
          refine AWP.cond_t rfl rfl ?_
          refine AWP.thawIn (Y := K) .here (fun _ => Hos.at hat (.agg (.tail (.head .here)))) fun F => ?_
          have hat1 : ((ks.map (kindA true)).set i (.agg [sA kn, .sl F 0 (kf.map fieldA).length]))[i]? = some (.agg [sA kn, .sl F 0 (kf.map fieldA).length]) := List.getElem?_set_self hikm
          refine AWP.rs fun Y => ?_
          have hb : ((kf.map fieldA).length + [fieldA new].length) * 32 ≤ 140737488355328 := by simp; omega
          have hatK : (ks.map (kindA true)).length = ((ks.map (kindA true)).set i (.agg [sA kn, .sl F 0 (kf.map fieldA).length])).length := by simp
          (repeat refine WF ?_); refine AWP.region_run (by kernel_rfl) (by kernel_rfl) ?_; (repeat (first | (refine RGo.gN ?_; first | (refine RGo.g_lit ?_; refine RGo.goL (fieldA new) ?_)) | (refine RGo.gQ ?_; first | (refine RGo.g_lit ?_; refine RGo.goL (fieldA new) ?_)) | refine RK ?_ | refine RGo.nil (by kernel_rfl) ?_))
          (repeat first | refine AOps.nil ?_ | refine WF ?_)
          exact jn (K, (ks.map (kindA true)).length, ((ks.map (kindA true)).set i (.agg [sA kn, .sl F 0 (kf.map fieldA).length])).set i (.agg [sA kn, .sl Y 0 ((kf.map fieldA).length + [fieldA new].length)]), [(Y, .row 41 3 (kf.map fieldA ++ [fieldA new]))]) ⟨by rw [← hout']; simp, .inr ⟨Y, i, ⟨kn, kf ++ [new]⟩, by dsimp only; rw [List.map_append]; rfl, by dsimp only; rw [List.set_set, List.map_append, List.length_append]; rfl, hil, hout'.symm⟩⟩
        · rw [if_neg (by decide), if_neg (by decide), if_neg (by decide), if_pos rfl] at hout'
          rcases hplc with ⟨h3, _⟩ | ⟨_, j, f, hfj, hfn, hff, hpj⟩
          · exact absurd h3 (by decide)
          have hpj2 : p2 = (j : Int) := by injection hpj with _ h; injection h
          subst hpj2
          have hjl : j < kf.length := (List.getElem?_eq_some_iff.1 hfj).1
          have hj40 : j ≤ 1099511627776 := by omega
          have hjm : j < (kf.map fieldA).length := by omega
          have hatf : (kf.map fieldA)[j]? = some (fieldA f) := by rw [List.getElem?_map, hfj]; rfl
          rw [Int.toNat_natCast] at hout'
          obtain ⟨fn, fb, fl⟩ := f
          (repeat (first | refine WK ?_ | refine All.i fun X => ?_ | refine AllY.i fun Y => ?_))
          refine AWP.cond_f rfl rfl ?_
          (repeat (first | refine WK ?_ | refine All.i fun X => ?_ | refine AllY.i fun Y => ?_))
          refine AWP.cond_f rfl rfl ?_
          (repeat (first | refine WK ?_ | refine All.i fun X => ?_ | refine AllY.i fun Y => ?_))
          refine AWP.cond_f rfl rfl ?_
          (repeat (first | refine WK ?_ | refine All.i fun X => ?_ | refine AllY.i fun Y => ?_))
          refine AWP.cond_f rfl rfl ?_
          (repeat (first | refine WK ?_ | refine All.i fun X => ?_ | refine AllY.i fun Y => ?_))
          refine AWP.cond_t rfl rfl ?_
          refine AWP.thawIn (Y := K) .here (fun _ => Hos.at hat (.agg (.tail (.head .here)))) fun F => ?_
          have hat1 : ((ks.map (kindA true)).set i (.agg [sA kn, .sl F 0 (kf.map fieldA).length]))[i]? = some (.agg [sA kn, .sl F 0 (kf.map fieldA).length]) := List.getElem?_set_self hikm
          have hdel := (deleteF_sp F (kf.map fieldA).length j (kf.map fieldA) rfl hjm (by omega) (fields_free kf) (fun x hx => by obtain ⟨y, _, rfl⟩ := List.mem_map.1 hx; rfl)).used
          refine AWP.rs fun Y => ?_
          (repeat refine WF ?_); refine AWP.region ?_; (repeat (first | (refine AOps.gN ?_; first | (refine AOps.g_callf ?_; first | refine AOps.z3 (h := hdel) (hT := .ls (Y := Y)) (k := ?_))) | refine WO ?_ | refine All.i fun X => ?_ | refine AllY.i fun Y => ?_))
          (repeat first | refine AOps.nil ?_ | refine WF ?_)
          have hel : (kf.map fieldA).eraseIdx j = (kf.eraseIdx j).map fieldA := eraseIdx_map _ kf j
          exact jn (K, (ks.map (kindA true)).length, ((ks.map (kindA true)).set i (.agg [sA kn, .sl F 0 (kf.map fieldA).length])).set i (.agg [sA kn, .sl Y 0 ((kf.map fieldA).eraseIdx j).length]), [(Y, .row 41 3 ((kf.map fieldA).eraseIdx j))]) ⟨by rw [← hout']; simp, .inr ⟨Y, i, ⟨kn, kf.eraseIdx j⟩, by dsimp only; rw [hel], by dsimp only; rw [List.set_set, hel], hil, hout'.symm⟩⟩
        · rw [if_neg (by decide), if_neg (by decide), if_neg (by decide), if_neg (by decide)] at hout'
          rcases hplc with ⟨h3, _⟩ | ⟨_, j, f, hfj, hfn, hff, hpj⟩
          · exact absurd h3 (by decide)
          have hpj2 : p2 = (j : Int) := by injection hpj with _ h; injection h
          subst hpj2
          have hjl : j < kf.length := (List.getElem?_eq_some_iff.1 hfj).1
          have hj40 : j ≤ 1099511627776 := by omega
          have hjm : j < (kf.map fieldA).length := by omega
          have hatf : (kf.map fieldA)[j]? = some (fieldA f) := by rw [List.getElem?_map, hfj]; rfl
          rw [Int.toNat_natCast] at hout'
          obtain ⟨fn, fb, fl⟩ := f
          (repeat (first | refine WK ?_ | refine All.i fun X => ?_ | refine AllY.i fun Y => ?_))
          refine AWP.cond_f rfl rfl ?_
          (repeat (first | refine WK ?_ | refine All.i fun X => ?_ | refine AllY.i fun Y => ?_))
          refine AWP.cond_f rfl rfl ?_
          (repeat (first | refine WK ?_ | refine All.i fun X => ?_ | refine AllY.i fun Y => ?_))
          refine AWP.cond_f rfl rfl ?_
          (repeat (first | refine WK ?_ | refine All.i fun X => ?_ | refine AllY.i fun Y => ?_))
          refine AWP.cond_f rfl rfl ?_
          (repeat (first | refine WK ?_ | refine All.i fun X => ?_ | refine AllY.i fun Y => ?_))
          refine AWP.cond_f rfl rfl ?_
          (repeat (first | refine WK ?_ | refine All.i fun X => ?_ | refine AllY.i fun Y => ?_))
          refine AWP.cond_t rfl rfl ?_
          refine AWP.thawIn (Y := K) .here (fun _ => Hos.at hat (.agg (.tail (.head .here)))) fun F => ?_
          have hat1 : ((ks.map (kindA true)).set i (.agg [sA kn, .sl F 0 (kf.map fieldA).length]))[i]? = some (.agg [sA kn, .sl F 0 (kf.map fieldA).length]) := List.getElem?_set_self hikm
          (repeat refine WF ?_); refine AWP.region_run (by kernel_rfl) (by kernel_rfl) ?_; (repeat (first | refine RK ?_ | refine RGo.nil (by kernel_rfl) ?_))
          (repeat first | refine AOps.nil ?_ | refine WF ?_)
          rw [hfj] at hout'
          dsimp only at hout'
          rw [if_pos rfl] at hout'
          exact jn (K, (ks.map (kindA true)).length, (ks.map (kindA true)).set i (.agg [sA kn, .sl F 0 (kf.map fieldA).length]), [(F, .row 41 3 ((kf.map fieldA).set j (.agg [sA mn, iA fb, iA fl])))]) ⟨by rw [← hout']; simp, .inr ⟨F, i, ⟨kn, kf.set j ⟨mn, fb, fl⟩⟩, by dsimp only; rw [← fields_set]; rfl, by dsimp only; rw [← fields_set, List.length_set], hil, hout'.symm⟩⟩
        · rw [if_neg (by decide), if_neg (by decide), if_neg (by decide), if_neg (by decide)] at hout'
          rcases hplc with ⟨h3, _⟩ | ⟨_, j, f, hfj, hfn, hff, hpj⟩
          · exact absurd h3 (by decide)
          have hpj2 : p2 = (j : Int) := by injection hpj with _ h; injection h
          subst hpj2
          have hjl : j < kf.length := (List.getElem?_eq_some_iff.1 hfj).1
          have hj40 : j ≤ 1099511627776 := by omega
          have hjm : j < (kf.map fieldA).length := by omega
          have hatf : (kf.map fieldA)[j]? = some (fieldA f) := by rw [List.getElem?_map, hfj]; rfl
          rw [Int.toNat_natCast] at hout'
          obtain ⟨fn, fb, fl⟩ := f
          (repeat (first | refine WK ?_ | refine All.i fun X => ?_ | refine AllY.i fun Y => ?_))
          refine AWP.cond_f rfl rfl ?_
          (repeat (first | refine WK ?_ | refine All.i fun X => ?_ | refine AllY.i fun Y => ?_))
          refine AWP.cond_f rfl rfl ?_
          (repeat (first | refine WK ?_ | refine All.i fun X => ?_ | refine AllY.i fun Y => ?_))
          refine AWP.cond_f rfl rfl ?_
          (repeat (first | refine WK ?_ | refine All.i fun X => ?_ | refine AllY.i fun Y => ?_))
          refine AWP.cond_f rfl rfl ?_
          (repeat (first | refine WK ?_ | refine All.i fun X => ?_ | refine AllY.i fun Y => ?_))
          refine AWP.cond_f rfl rfl ?_
          (repeat (first | refine WK ?_ | refine All.i fun X => ?_ | refine AllY.i fun Y => ?_))
          refine AWP.cond_f rfl rfl ?_
          (repeat (first | refine WK ?_ | refine All.i fun X => ?_ | refine AllY.i fun Y => ?_))
          refine AWP.cond_t rfl rfl ?_
          refine AWP.thawIn (Y := K) .here (fun _ => Hos.at hat (.agg (.tail (.head .here)))) fun F => ?_
          have hat1 : ((ks.map (kindA true)).set i (.agg [sA kn, .sl F 0 (kf.map fieldA).length]))[i]? = some (.agg [sA kn, .sl F 0 (kf.map fieldA).length]) := List.getElem?_set_self hikm
          (repeat refine WF ?_); refine AWP.region_run (by kernel_rfl) (by kernel_rfl) ?_; (repeat (first | (refine RGo.gN ?_; first | refine RGo.s (W.store rfl rfl (by exact At.f) (List.getElem?_set_self hjm) (by exact rfl)) rfl ?_) | (refine RGo.gQ ?_; first | refine RGo.s (W.store rfl rfl (by exact At.f) (List.getElem?_set_self hjm) (by exact rfl)) rfl ?_) | refine RK ?_ | refine RGo.nil (by kernel_rfl) ?_))
          (repeat first | refine AOps.nil ?_ | refine WF ?_)
          rw [hfj] at hout'
          dsimp only at hout'
          rw [if_neg (by decide)] at hout'
          exact jn (K, (ks.map (kindA true)).length, (ks.map (kindA true)).set i (.agg [sA kn, .sl F 0 (kf.map fieldA).length]), [(F, .row 41 3 (((kf.map fieldA).set j (.agg [sA fn, iA new.bits, iA fl])).set j (.agg [sA fn, iA new.bits, iA new.low])))]) ⟨by rw [← hout']; simp, .inr ⟨F, i, ⟨kn, kf.set j ⟨fn, new.bits, new.low⟩⟩, by dsimp only; rw [List.set_set, ← fields_set]; rfl, by dsimp only; rw [← fields_set, List.length_set], hil, hout'.symm⟩⟩
    · rintro ⟨K, n, L, E⟩ ⟨hn, hLE⟩
      dsimp only at hn hLE
      subst hn
      rcases hLE with ⟨rfl, rfl⟩ | ⟨Y, i, k', rfl, rfl, hil, ho⟩
      all_goals dsimp only
      rotate_left
      · have hxat : ((ks.map (kindA true)).set i (.agg [sA k'.name, .sl Y 0 (k'.fields.map fieldA).length]))[i]? = some (.agg [sA k'.name, .sl Y 0 (k'.fields.map fieldA).length]) := List.getElem?_set_self (by omega)
        refine AWP.closeIn (X := Y) (Y := K) .here (.next .here) rfl rfl (Hos.at hxat (.agg (.tail (.head .here)))) ?_
        have hfz : AV.frzs (((ks.map (kindA true)).set i (.agg [sA k'.name, .sl Y 0 (k'.fields.map fieldA).length])).set i (kindA true k')) = out.map (kindA false) := by rw [List.set_set, kinds_set, kinds_frz, ho]
        refine AWP.frzRow K (out.map (kindA false)) hfz ?_
        refine AWP.weak (st' := ⟨[(9, .sl K 0 out.length)], (K, .row 44 2 (out.map (kindA false))) :: Sf⟩) ⟨by exact Lk.f, by exact Sub.f⟩ ?_
        refine AWP.iceL 9 (out.map (kindA false)) (kinds_frz false out) ?_
        (repeat (first | (refine AOps.gN ?_; first | (refine AOps.g_callf ?_; first | refine AOps.c1 (h := (hck ..)) (k := ?_))) | refine WK ?_ | refine All.i fun X => ?_ | refine AllY.i fun Y => ?_))
        refine AWP.cond rfl (fun hc => ?_) (fun hc => ?_)
        · have hc : checkErr out ≠ 0 := by simpa using hc
          rw [if_pos hc] at hr
          subst hr
          (repeat (first | refine WK ?_ | refine All.i fun X => ?_ | refine AllY.i fun Y => ?_))
          (refine AWP.ret ?_; (repeat (first | refine inB_r ?_ | refine andThen_r ?_)); refine retQ_r ?_)
          exact ⟨[.prim (.slice none 0 0), iA (checkErr out)], [kindsA false false [], iA (checkErr out)], _, [], .cons (.tmp rfl) rfl (.cons (.tmp rfl) rfl .nil), .cons (.cell .nil) (.cons (.cell .same) .nil), by exact Sub.f, rfl, rfl⟩
        · have hc : checkErr out = 0 := by simpa using hc
          rw [if_neg (by simp [hc])] at hr
          subst hr
          (repeat (first | refine WK ?_ | refine All.i fun X => ?_ | refine AllY.i fun Y => ?_))
          (refine AWP.ret ?_; (repeat (first | refine inB_r ?_ | refine andThen_r ?_)); refine retQ_r ?_)
          exact ⟨[kindsA false false out, iA 0], [kindsA false false out, iA 0], _, [], .cons (.tmp rfl) rfl (.cons (.tmp rfl) rfl .nil), .cons (.cell .same) (.cons (.cell .same) .nil), by exact Sub.f, rfl, rfl⟩
      · refine AWP.iceL 9 (out.map (kindA false)) (kinds_frz false out) ?_
        (repeat (first | (refine AOps.gN ?_; first | (refine AOps.g_callf ?_; first | refine AOps.c1 (h := (hck ..)) (k := ?_))) | refine WK ?_ | refine All.i fun X => ?_ | refine AllY.i fun Y => ?_))
        refine AWP.cond rfl (fun hc => ?_) (fun hc => ?_)
        · have hc : checkErr out ≠ 0 := by simpa using hc
          rw [if_pos hc] at hr
          subst hr
          (repeat (first | refine WK ?_ | refine All.i fun X => ?_ | refine AllY.i fun Y => ?_))
          (refine AWP.ret ?_; (repeat (first | refine inB_r ?_ | refine andThen_r ?_)); refine retQ_r ?_)
          exact ⟨[.prim (.slice none 0 0), iA (checkErr out)], [kindsA false false [], iA (checkErr out)], _, [], .cons (.tmp rfl) rfl (.cons (.tmp rfl) rfl .nil), .cons (.cell .nil) (.cons (.cell .same) .nil), by exact Sub.f, rfl, rfl⟩
        · have hc : checkErr out = 0 := by simpa using hc
          rw [if_neg (by simp [hc])] at hr
          subst hr
          (repeat (first | refine WK ?_ | refine All.i fun X => ?_ | refine AllY.i fun Y => ?_))
          (refine AWP.ret ?_; (repeat (first | refine inB_r ?_ | refine andThen_r ?_)); refine retQ_r ?_)
          exact ⟨[kindsA false false out, iA 0], [kindsA false false out, iA 0], _, [], .cons (.tmp rfl) rfl (.cons (.tmp rfl) rfl .nil), .cons (.cell .same) (.cons (.cell .same) .nil), by exact Sub.f, rfl, rfl⟩
  · rw [if_pos he] at hr
    subst hr
    obtain ⟨e, hee⟩ : ∃ e, (placeOf ks m).2.2 = e := ⟨_, rfl⟩
    rw [hee] at he hpl
    dsimp only
    rw [hee]
    (repeat refine WF ?_); refine AWP.region ?_; (repeat (first | (refine AOps.gN ?_; first | (refine AOps.g_box ?_; refine AOps.goB ?_)) | refine WO ?_ | refine All.i fun X => ?_ | refine AllY.i fun Y => ?_)); refine AOps.nil ?_; (repeat refine WN ?_)
    (repeat refine WF ?_); refine AWP.region ?_; (repeat (first | (refine AOps.gN ?_; first | (refine AOps.g_callf ?_; first | refine AOps.c2 (h := (hpl ..)) (k := ?_))) | refine WO ?_ | refine All.i fun X => ?_ | refine AllY.i fun Y => ?_)); refine AOps.nil ?_; (repeat refine WN ?_)
    (repeat refine WF ?_); refine AWP.region ?_; (repeat (first | refine WO ?_ | refine All.i fun X => ?_ | refine AllY.i fun Y => ?_)); refine AOps.nil ?_; (repeat refine WN ?_)
    refine AWP.cond_t rfl (decide_eq_true he) ?_
    (repeat (first | refine WK ?_ | refine All.i fun X => ?_ | refine AllY.i fun Y => ?_))
    (refine AWP.ret ?_; (repeat (first | refine inB_r ?_ | refine andThen_r ?_)); refine retQ_r ?_)
    exact ⟨[.prim (.slice none 0 0), iA e], [kindsA false false [], iA e], _, [], .cons (.tmp rfl) rfl (.cons (.tmp rfl) rfl .nil), .cons (.cell .nil) (.cons (.cell .same) .nil), by exact Sub.f, rfl, rfl⟩
end Go.Proofs.Ytfkppbkipbbmaaa

namespace Go.Proofs.Ytfkppbkipbbmaaa
set_option linter.unusedVariables false
theorem high_ps (f : Field) : PS Try.prog 99 [fieldA f] (iA (highOf f)) := by
  refine Spec.of (nt := 13) (res := [.tmp 2]) Try.func99 rfl (by kernel_rfl) rfl rfl rfl fun Sf => ?_
  (repeat (first | (refine AOps.gN ?_; first | refine AOps.p (W.call1 rfl (field_ps _) rfl) rfl ?_) | refine WK ?_ | refine All.i fun X => ?_ | refine AllY.i fun Y => ?_))
  refine AWP.cond rfl (fun hb => ?_) (fun hb => ?_)
  · have hb : fieldErr f ≠ 0 := by simpa using hb
    (repeat (first | refine WK ?_ | refine All.i fun X => ?_ | refine AllY.i fun Y => ?_))
    (refine AWP.ret ?_; (repeat (first | refine inB_r ?_ | refine andThen_r ?_)); refine retQ_r ?_)
    refine Ends.plain rfl rfl (by exact Sub.f) ⟨?_, rfl⟩
    simp [highOf, hb]
  have hb : fieldErr f = 0 := by simpa using hb
  have h1 := (fieldErr_eq_zero f).1 hb
  obtain ⟨n, hn⟩ : ∃ n : Nat, f.bits = n := ⟨f.bits.toNat, by omega⟩
  have hp : (2 : Int) ^ n ≤ 4294967296 ∧ 1 ≤ (2 : Int) ^ n := by
    have hn2 : n ≤ 32 := by omega
    clear hn
    have : ∀ n, n ≤ 32 → (2 : Int) ^ n ≤ 4294967296 ∧ 1 ≤ (2 : Int) ^ n := by decide
    exact this n hn2
  have hw : IntKind.i64.wrap (1 * 2 ^ n) = 2 ^ n := by rw [Int.one_mul]; exact wrap_id (by omega) (by omega)
  (repeat (first | refine WK ?_ | refine All.i fun X => ?_ | refine AllY.i fun Y => ?_))
  (repeat refine WF ?_); refine AWP.region_run (by kernel_rfl) (by kernel_rfl) ?_; (repeat (first | (refine RGo.gN ?_; first | refine RGo.p (W.shl rfl rfl hn (by show n ≤ 64; omega)) rfl ?_ | refine RGo.p (W.sub rfl rfl (by rw [hw]; omega)) rfl ?_ | refine RGo.p (W.add rfl rfl (by rw [hw]; omega)) rfl ?_) | (refine RGo.gQ ?_; first | refine RGo.p (W.shl rfl rfl hn (by show n ≤ 64; omega)) rfl ?_ | refine RGo.p (W.sub rfl rfl (by rw [hw]; omega)) rfl ?_ | refine RGo.p (W.add rfl rfl (by rw [hw]; omega)) rfl ?_) | refine RK ?_ | refine RGo.nil (by kernel_rfl) ?_))
  (repeat (first | refine WK ?_ | refine All.i fun X => ?_ | refine AllY.i fun Y => ?_))
  (refine AWP.ret ?_; (repeat (first | refine inB_r ?_ | refine andThen_r ?_)); refine retQ_r ?_)
  refine Ends.plain rfl rfl (by exact Sub.f) ⟨?_, rfl⟩
  simp only [hw]
  simp [highOf, hb, hn]
theorem near_ps (f : Field) (v : Int) : PS Try.prog 93 [fieldA f, iA v] (iA (nearOf f v)) := by
  refine Spec.of (nt := 15) (res := [.tmp 4]) Try.func93 rfl (by kernel_rfl) rfl rfl rfl fun Sf => ?_
  (repeat (first | (refine AOps.gN ?_; first | refine AOps.p (W.call1 rfl (field_ps _) rfl) rfl ?_) | refine WK ?_ | refine All.i fun X => ?_ | refine AllY.i fun Y => ?_))
  refine AWP.cond rfl (fun hb => ?_) (fun hb => ?_)
  · have hb : fieldErr f ≠ 0 := by simpa using hb
    (repeat (first | refine WK ?_ | refine All.i fun X => ?_ | refine AllY.i fun Y => ?_))
    (refine AWP.ret ?_; (repeat (first | refine inB_r ?_ | refine andThen_r ?_)); refine retQ_r ?_)
    refine Ends.plain rfl rfl (by exact Sub.f) ⟨?_, rfl⟩
    simp [nearOf, hb]
  have hb : fieldErr f = 0 := by simpa using hb
  (repeat (first | refine WK ?_ | refine All.i fun X => ?_ | refine AllY.i fun Y => ?_))
  (repeat refine WF ?_); refine AWP.region_run (by kernel_rfl) (by kernel_rfl) ?_; (repeat (first | (refine RGo.gN ?_; first | refine RGo.p (W.call1 rfl (high_ps _) rfl) rfl ?_) | (refine RGo.gQ ?_; first | refine RGo.p (W.call1 rfl (high_ps _) rfl) rfl ?_) | refine RK ?_ | refine RGo.nil (by kernel_rfl) ?_))
  (repeat (first | refine WK ?_ | refine All.i fun X => ?_ | refine AllY.i fun Y => ?_))
  (refine AWP.ret ?_; (repeat (first | refine inB_r ?_ | refine andThen_r ?_)); refine retQ_r ?_)
  refine Ends.plain rfl rfl (by exact Sub.f) ⟨?_, rfl⟩
  rw [show nearOf f v = max f.low (min v (highOf f)) from by simp [nearOf, hb]]
  simp only [Int.max_def, Int.min_def]
  congr 2
  (repeat' split) <;> omega
end Go.Proofs.Ytfkppbkipbbmaaa

namespace Go.Proofs.Ytfkppbkipbbmaaa
set_option linter.unusedVariables false
end Go.Proofs.Ytfkppbkipbbmaaa

namespace Go.Proofs.Ytfkppbkipbbmaaa
set_option linter.unusedVariables false
theorem cloneI_ps (l : List Int) (hl : l.length * 8 ≤ 140737488355328) : PS Try.prog 70 [.lst false 3 1 (l.map iA)] (.lst true 3 1 (l.map iA)) := by
  refine Spec.of (nt := 8) (res := [.tmp 2]) Try.func70 rfl (by kernel_rfl) rfl rfl rfl fun Sf => ?_
  (repeat (first | (refine AOps.gN ?_; first | refine AOps.isNil fun b hb => ?_) | refine WK ?_ | refine All.i fun X => ?_ | refine AllY.i fun Y => ?_))
  refine AWP.cond rfl (fun hc => ?_) (fun hc => ?_)
  · rw [hb hc]
    (repeat (first | refine WK ?_ | refine All.i fun X => ?_ | refine AllY.i fun Y => ?_))
    (refine AWP.ret ?_; (repeat (first | refine inB_r ?_ | refine andThen_r ?_)); refine retQ_r ?_)
    exact ⟨[.prim (.slice none 0 0)], [.lst true 3 1 []], _, [], .cons (.tmp rfl) rfl .nil, .cons (.cell .nil) .nil, by exact Sub.f, rfl, rfl⟩
  · have hl' : (0 + (l.map iA).length) * 8 ≤ 140737488355328 := by simpa using hl
    clear hl
    (repeat (first | (refine AOps.gN ?_; first | (refine AOps.g_lit ?_; refine AOps.goL0 fun K => ?_)) | refine WK ?_ | refine All.i fun X => ?_ | refine AllY.i fun Y => ?_))
    (refine AWP.ret ?_; (repeat (first | refine inB_r ?_ | refine andThen_r ?_)); refine retQ_r ?_)
    exact ⟨[.sl Y 0 (0 + (l.map iA).length)], [.lst true 3 1 (l.map iA)], _, [], .cons (.tmp rfl) rfl .nil, .cons (.cell (.sl (p := 0) .here (by simp))) .nil, by exact Sub.f, rfl, rfl⟩
end Go.Proofs.Ytfkppbkipbbmaaa

namespace Go.Proofs.Ytfkppbkipbbmaaa
set_option linter.unusedVariables false
theorem deleteI_sp (X n i : Nat) (l : List AV) (hn : n = l.length) (hi : i < n) (hl : n ≤ 1099511627776) (hfr : FreeL l) (hw : ∀ e ∈ l, e.width = 1) :
    Spec Try.prog 94 [.sl X 0 n, iA i, iA ((i : Int) + 1)] [(X, .row 3 1 l)] fun r S' => r = .lst true 3 1 (l.eraseIdx i) ∧ S' = [] := by
  subst hn
  refine Spec.of (nt := 33) (res := [.tmp 6]) Try.func94 rfl (by kernel_rfl) rfl rfl rfl fun Sf => ?_
  have h1 : ((i : Int) + 1) = ((i + 1 : Nat) : Int) := by omega
  (repeat refine WF ?_); refine AWP.region ?_; (repeat (first | refine WO ?_ | refine All.i fun X => ?_ | refine AllY.i fun Y => ?_)); refine AOps.nil ?_; (repeat refine WN ?_)
  (repeat refine WF ?_); refine AWP.region ?_; (repeat (first | (refine AOps.gN ?_; first | refine AOps.p (W.slice3 (lo := i) (hi := i + 1) (mx := l.length) rfl rfl rfl rfl (by exact At.f) rfl h1 rfl (by omega) (by omega) (Nat.le_refl _)) rfl ?_) | refine WO ?_ | refine All.i fun X => ?_ | refine AllY.i fun Y => ?_)); refine AOps.nil ?_; (repeat refine WN ?_)
  (repeat refine WF ?_); refine AWP.region ?_; (repeat (first | refine WO ?_ | refine All.i fun X => ?_ | refine AllY.i fun Y => ?_)); refine AOps.nil ?_; (repeat refine WN ?_)
  refine AWP.cond_f rfl (decide_eq_false (by omega)) ?_
  (repeat refine WF ?_); refine AWP.region ?_; (repeat (first | refine WO ?_ | refine All.i fun X => ?_ | refine AllY.i fun Y => ?_)); refine AOps.nil ?_; (repeat refine WN ?_)
  have hel : (l.eraseIdx i).length = l.length - 1 := List.length_eraseIdx_of_lt hi
  rcases Nat.lt_or_ge (i + 1) l.length with hj | hj
  · have hp := eraseIdx_parts hi
    (repeat refine WF ?_); refine AWP.region_run (by kernel_rfl) (by kernel_rfl) ?_; (repeat (first | (refine RGo.gN ?_; first | refine RGo.p (W.hi rfl rfl (by exact At.f) rfl (by omega)) rfl ?_ | refine RGo.p (W.slice_lo (lo := i + 1) rfl rfl (by exact At.f) h1 (by omega)) rfl ?_ | refine RGo.s (W.appS (l.length - (i + 1)) (by omega) (by omega) (by omega) hfr hw rfl rfl (by exact At.f)) rfl ?_) | (refine RGo.gQ ?_; first | refine RGo.p (W.hi rfl rfl (by exact At.f) rfl (by omega)) rfl ?_ | refine RGo.p (W.slice_lo (lo := i + 1) rfl rfl (by exact At.f) h1 (by omega)) rfl ?_ | refine RGo.s (W.appS (l.length - (i + 1)) (by omega) (by omega) (by omega) hfr hw rfl rfl (by exact At.f)) rfl ?_) | refine RK ?_ | refine RGo.nil (by kernel_rfl) ?_))
    rw [Nat.zero_add]
    have hln : i + (l.length - (i + 1)) = l.length - 1 := by omega
    have hLl : (l.take i ++ (l.drop (i + 1)).take (l.length - (i + 1)) ++ l.drop (i + (l.length - (i + 1)))).length = l.length := by simp only [List.length_append, List.length_take, List.length_drop]; omega
    have hLp := hp (l.drop (i + (l.length - (i + 1))))
    obtain ⟨L', hL'⟩ : ∃ L', l.take i ++ (l.drop (i + 1)).take (l.length - (i + 1)) ++ l.drop (i + (l.length - (i + 1))) = L' := ⟨_, rfl⟩
    rw [hL'] at hLl hLp ⊢
    have key : ∀ Z D, ((L'.take (i + (l.length - (i + 1))) ++ Z) ++ D).take (i + (l.length - (i + 1))) = l.eraseIdx i := fun Z D => by
      rw [List.append_assoc, List.take_append_of_le_length (by rw [List.length_take]; omega), List.take_take, Nat.min_self, hLp]
    (repeat refine WF ?_); refine AWP.region ?_; (repeat (first | (refine AOps.gN ?_; first | refine AOps.p (W.lohi (lo := i + (l.length - (i + 1))) (hi := l.length) rfl rfl rfl (by exact At.f) rfl rfl (by omega) (by omega)) rfl ?_ | refine AOps.s (W.clear rfl (by exact At.f) (by first | exact .inl rfl | exact .inr rfl) rfl (by omega)) rfl ?_) | refine WO ?_ | refine All.i fun X => ?_ | refine AllY.i fun Y => ?_)); refine AOps.nil ?_; (repeat refine WN ?_)
    (repeat refine WF ?_); refine AWP.region ?_; (repeat (first | refine WO ?_ | refine All.i fun X => ?_ | refine AllY.i fun Y => ?_)); refine AOps.nil ?_; (repeat refine WN ?_)
    refine AWP.shrink (X := X) (i + (l.length - (i + 1))) ?_
    rw [Nat.zero_add, key]
    (refine AWP.ret ?_; (repeat (first | refine inB_r ?_ | refine andThen_r ?_)); refine retQ_r ?_)
    exact ⟨[.sl X 0 (i + (l.length - (i + 1)))], [.lst true 3 1 (l.eraseIdx i)], _, [], .cons (.tmp rfl) rfl .nil, .cons (.cell (.sl (p := 0) .here (by rw [hel]; omega))) .nil, by exact Sub.f, rfl, rfl⟩
  · have hie : i = l.length - 1 := by omega
    have hl0 : l.length - (i + 1) = 0 := by omega
    have hle : l.eraseIdx i = l.take i := by rw [List.eraseIdx_eq_take_drop_succ, List.drop_of_length_le (by omega), List.append_nil]
    have key : ∀ Z D, ((l.take i ++ Z) ++ D).take i = l.eraseIdx i := fun Z D => by
      rw [List.append_assoc, List.take_append_of_le_length (by rw [List.length_take]; omega), List.take_take, Nat.min_self, hle]
    (repeat refine WF ?_); refine AWP.region_run (by kernel_rfl) (by kernel_rfl) ?_; (repeat (first | (refine RGo.gN ?_; first | refine RGo.p (W.hi rfl rfl (by exact At.f) rfl (by omega)) rfl ?_ | (refine RGo.p (W.slice_lo (lo := i + 1) rfl rfl (by exact At.f) h1 (by omega)) rfl ?_; rw [hl0]) | refine RGo.p (W.app0 rfl rfl (by exact At.f)) rfl ?_) | (refine RGo.gQ ?_; first | refine RGo.p (W.hi rfl rfl (by exact At.f) rfl (by omega)) rfl ?_ | (refine RGo.p (W.slice_lo (lo := i + 1) rfl rfl (by exact At.f) h1 (by omega)) rfl ?_; rw [hl0]) | refine RGo.p (W.app0 rfl rfl (by exact At.f)) rfl ?_) | refine RK ?_ | refine RGo.nil (by kernel_rfl) ?_))
    (repeat refine WF ?_); refine AWP.region ?_; (repeat (first | (refine AOps.gN ?_; first | refine AOps.p (W.lohi (lo := i) (hi := l.length) rfl rfl rfl (by exact At.f) rfl rfl (by omega) (by omega)) rfl ?_ | refine AOps.s (W.clear rfl (by exact At.f) (by first | exact .inl rfl | exact .inr rfl) rfl (by omega)) rfl ?_) | refine WO ?_ | refine All.i fun X => ?_ | refine AllY.i fun Y => ?_)); refine AOps.nil ?_; (repeat refine WN ?_)
    (repeat refine WF ?_); refine AWP.region ?_; (repeat (first | refine WO ?_ | refine All.i fun X => ?_ | refine AllY.i fun Y => ?_)); refine AOps.nil ?_; (repeat refine WN ?_)
    refine AWP.shrink (X := X) i ?_
    simp only [Nat.zero_add]
    rw [key]
    (refine AWP.ret ?_; (repeat (first | refine inB_r ?_ | refine andThen_r ?_)); refine retQ_r ?_)
    exact ⟨[.sl X 0 i], [.lst true 3 1 (l.eraseIdx i)], _, [], .cons (.tmp rfl) rfl .nil, .cons (.cell (.sl (p := 0) .here (by rw [hel]; omega))) .nil, by exact Sub.f, rfl, rfl⟩
end Go.Proofs.Ytfkppbkipbbmaaa

namespace Go.Proofs.Ytfkppbkipbbmaaa
set_option linter.unusedVariables false
theorem compsAt_next {ks : List Kind} {m : Move} {i j : Int} {l : List Comp} {q : Nat} {c : Comp} (h : q < l.length) (e : l[q] = c) : compsAt ks m i j (l.take (q + 1)) = compsAt ks m i j (l.take q) ++ (compOne ks m i j c).toList := by
  unfold compsAt
  rw [List.take_succ_eq_append_getElem h, List.filterMap_append, e]
  congr 1
/-- What comps asks of the components of the kind that is changed. -/
def CompFit (ks : List Kind) (m : Move) (i j : Int) (c : Comp) : Prop :=
  c.kind = i → (m.act = 4 → ∃ j' : Nat, j = j' ∧ j' < c.vals.length) ∧ (m.act = 6 → ∃ (i' j' : Nat) (k : Kind) (f : Field), i = i' ∧ j = j' ∧ ks[i']? = some k ∧ k.fields[j']? = some f ∧ j' < c.vals.length)
theorem ints_free (l : List Int) : FreeL (l.map iA) := fun x hx => by
  obtain ⟨f, _, rfl⟩ := List.mem_map.1 hx
  exact FreeE.prim _
set_option maxRecDepth 8000 in
set_option maxHeartbeats 4000000 in
theorem comps_mps (ks : List Kind) (m : Move) (i j : Int) (l : List Comp) (hl : l.length ≤ 1099511627776) (hv : ∀ c ∈ l, c.vals.length ≤ 1099511627775) (hk : ∀ c ∈ l, -1 ≤ c.kind ∧ c.kind ≤ 1099511627776) (hf : ∀ c ∈ l, CompFit ks m i j c) :
    PS Try.prog 55 [compsA false false l, kindsA false false ks, moveA false m, iA i, iA j] (compsA true false (compsAt ks m i j l)) := by
  refine Spec.of (nt := 101) (res := [.tmp 10]) Try.func55 rfl (by kernel_rfl) rfl rfl rfl fun Sf => ?_
  have hlm : (l.map (compA false)).length = l.length := List.length_map _
  (repeat refine WF ?_); refine AWP.region ?_; (repeat (first | (refine AOps.gN ?_; first | (refine AOps.g_box ?_; refine AOps.goB ?_)) | refine WO ?_ | refine All.i fun X => ?_ | refine AllY.i fun Y => ?_)); refine AOps.nil ?_; (repeat refine WN ?_)
  (repeat refine WF ?_); refine AWP.region ?_; (repeat (first | refine WO ?_ | refine All.i fun X => ?_ | refine AllY.i fun Y => ?_)); refine AOps.nil ?_; (repeat refine WN ?_)
  refine AWP.adopt (d := 11) 141 2 rfl fun O => ?_
  (repeat (first | refine WK ?_ | refine All.i fun X => ?_ | refine AllY.i fun Y => ?_))
  refine AWP.lp4 (fun (q O n : Nat) (M : List AV) => ⟨[(1, kindsA false false ks), (3, iA i), (4, iA j), (7, .fp (moveA false m).cells), (11, .sl O 0 n), (14, compsA false false l), (15, iA (l.map (compA false)).length), (16, iA q)], (O, .row 141 2 M) :: Sf⟩) (fun q _ n M => q ≤ l.length ∧ n = M.length ∧ n ≤ q ∧ M = (compsAt ks m i j (l.take q)).map (compA false)) (fun q _ _ _ => l.length - q) 0 O 0 [] ⟨Nat.zero_le _, rfl, Nat.le_refl _, rfl⟩ ?_
  rintro q O n M ⟨hq, hn, hnq, hM⟩
  (repeat (first | refine WK ?_ | refine All.i fun X => ?_ | refine AllY.i fun Y => ?_))
  refine AWP.cond rfl (fun hc => ?_) (fun hc => ?_)
  · have h : q < l.length := by rw [decide_eq_true_eq, hlm] at hc; omega
    obtain ⟨c, hcq⟩ : ∃ c, l[q] = c := ⟨_, rfl⟩
    have hcm : c ∈ l := hcq ▸ List.getElem_mem h
    have hnx := compsAt_next (ks := ks) (m := m) (i := i) (j := j) h hcq
    have hvc := hv c hcm
    have hkc := hk c hcm
    have hfc := hf c hcm
    obtain ⟨ck, cv⟩ := c
    have hat : (l.map (compA false))[q]? = some (compA false ⟨ck, cv⟩) := by rw [List.getElem?_map, List.getElem?_eq_getElem h, hcq]; rfl
    dsimp only at hvc hkc hfc
    have hn1 : n + 1 ≤ 1099511627776 := by omega
    obtain ⟨act, mk, mf, mn, mv, new, whole⟩ := m
    have hvm : (cv.map iA).length = cv.length := List.length_map _
    (repeat (first | refine WK ?_ | refine All.i fun V => ?_ | refine AllY.i fun Y => ?_))
    rcases Bool.eq_false_or_eq_true (decide (act = 1)) with a1 | a1
    · have h1 : act = 1 := by simpa using a1
      have a3 : decide (act = 3) = false := decide_eq_false (by omega)
      have a4 : decide (act = 4) = false := decide_eq_false (by omega)
      have a6 : decide (act = 6) = false := decide_eq_false (by omega)
      rcases Bool.eq_false_or_eq_true (decide (ck = i)) with g1 | g1
      · have hck : ck = i := by simpa using g1
        have hco : compOne ks ⟨act, mk, mf, mn, mv, new, whole⟩ i j ⟨ck, cv⟩ = none := by
          unfold compOne
          rw [if_pos ⟨h1, hck⟩]
        rw [hco] at hnx
        have ga : (decide (act = 1) && decide (ck = i)) = true := by rw [a1, g1]; rfl
        (repeat (first | refine WK ?_ | refine All.i fun X => ?_ | refine AllY.i fun Y => ?_))
        refine AWP.cond_t rfl (by first | rfl | assumption) ?_
        (repeat (first | refine WK ?_ | refine All.i fun X => ?_ | refine AllY.i fun Y => ?_))
        refine lp_next4 (q + 1) O n M ⟨h, hn, by omega, ?_⟩
        rw [hnx, hM]; simp
      · have hck : ck ≠ i := by simpa using g1
        have ga : (decide (act = 1) && decide (ck = i)) = false := by rw [a1, g1]; rfl
        (repeat (first | refine WK ?_ | refine All.i fun X => ?_ | refine AllY.i fun Y => ?_))
        refine AWP.cond_f rfl (by first | rfl | assumption) ?_
        rcases Bool.eq_false_or_eq_true (decide (i < ck)) with g2 | g2
        · have hci : i < ck := by simpa using g2
          have hco : compOne ks ⟨act, mk, mf, mn, mv, new, whole⟩ i j ⟨ck, cv⟩ = some ⟨ck - 1, cv⟩ := by
            unfold compOne
            rw [if_neg (by simp [hck]), if_pos ⟨h1, hci⟩]
          rw [hco] at hnx
          have gb : (decide (act = 1) && decide (i < ck)) = true := by rw [a1, g2]; rfl
          (repeat (first | refine WK ?_ | refine All.i fun X => ?_ | refine AllY.i fun Y => ?_))
          refine AWP.cond_t rfl (by first | rfl | assumption) ?_
          (repeat (first | (refine AOps.gN ?_; first | refine AOps.p (W.subE (ck - 1) rfl (by omega) rfl rfl) rfl ?_) | refine WK ?_ | refine All.i fun X => ?_ | refine AllY.i fun Y => ?_))
          refine AWP.cond rfl (fun hd => ?_) (fun hd => ?_)
          · (repeat (first | refine WK ?_ | refine All.i fun X => ?_ | refine AllY.i fun Y => ?_))
            refine AWP.cond_f rfl (by first | rfl | assumption) ?_
            (repeat (first | refine WK ?_ | refine All.i fun X => ?_ | refine AllY.i fun Y => ?_))
            refine AWP.cond_f rfl (by first | rfl | assumption) ?_
            (repeat (first | refine WK ?_ | refine All.i fun X => ?_ | refine AllY.i fun Y => ?_))
            refine AWP.cond_f rfl (by first | rfl | assumption) ?_
            (repeat (first | (refine AOps.gN ?_; first | (refine AOps.g_lit ?_; refine AOps.goL (compA false ⟨ck - 1, cv⟩) ?_)) | refine WK ?_ | refine All.i fun X => ?_ | refine AllY.i fun Y => ?_))
            refine lp_next4 (q + 1) Y _ _ ⟨h, ?_, ?_, ?_⟩
            · rw [List.length_append, ← hn]
            · show n + 1 ≤ q + 1; omega
            · rw [hnx, hM, List.map_append]; rfl
          · (repeat (first | refine WK ?_ | refine All.i fun X => ?_ | refine AllY.i fun Y => ?_))
            (repeat (first | (refine AOps.gN ?_; first | (refine AOps.g_lit ?_; refine AOps.goL (compA false ⟨ck - 1, cv⟩) ?_)) | refine WK ?_ | refine All.i fun X => ?_ | refine AllY.i fun Y => ?_))
            refine lp_next4 (q + 1) Y _ _ ⟨h, ?_, ?_, ?_⟩
            · rw [List.length_append, ← hn]
            · show n + 1 ≤ q + 1; omega
            · rw [hnx, hM, List.map_append]; rfl
        · have hci : ¬ i < ck := by simpa using g2
          have hco : compOne ks ⟨act, mk, mf, mn, mv, new, whole⟩ i j ⟨ck, cv⟩ = some ⟨ck, cv⟩ := by
            unfold compOne
            rw [if_neg (by simp [hck]), if_neg (by simp [hci]), if_neg hck]
          rw [hco] at hnx
          have gb : (decide (act = 1) && decide (i < ck)) = false := by rw [a1, g2]; rfl
          (repeat (first | refine WK ?_ | refine All.i fun X => ?_ | refine AllY.i fun Y => ?_))
          refine AWP.cond_f rfl (by first | rfl | assumption) ?_
          (repeat (first | refine WK ?_ | refine All.i fun X => ?_ | refine AllY.i fun Y => ?_))
          refine AWP.cond_f rfl g1 ?_
          (repeat (first | (refine AOps.gN ?_; first | (refine AOps.g_lit ?_; refine AOps.goL (compA false ⟨ck, cv⟩) ?_)) | refine WK ?_ | refine All.i fun X => ?_ | refine AllY.i fun Y => ?_))
          refine lp_next4 (q + 1) Y _ _ ⟨h, ?_, ?_, ?_⟩
          · rw [List.length_append, ← hn]
          · show n + 1 ≤ q + 1; omega
          · rw [hnx, hM, List.map_append]; rfl
    · have h1 : act ≠ 1 := by simpa using a1
      have ga : (decide (act = 1) && decide (ck = i)) = false := by rw [a1]; rfl
      have gb : (decide (act = 1) && decide (i < ck)) = false := by rw [a1]; rfl
      (repeat (first | refine WK ?_ | refine All.i fun X => ?_ | refine AllY.i fun Y => ?_))
      refine AWP.cond_f rfl (by first | rfl | assumption) ?_
      (repeat (first | refine WK ?_ | refine All.i fun X => ?_ | refine AllY.i fun Y => ?_))
      refine AWP.cond_f rfl (by first | rfl | assumption) ?_
      (repeat (first | refine WK ?_ | refine All.i fun X => ?_ | refine AllY.i fun Y => ?_))
      rcases Bool.eq_false_or_eq_true (decide (ck = i)) with g1 | g1
      · have hck : ck = i := by simpa using g1
        refine AWP.cond_t rfl g1 ?_
        rcases Bool.eq_false_or_eq_true (decide (act = 3)) with a3 | a3
        · have h3 : act = 3 := by simpa using a3
          have hco : compOne ks ⟨act, mk, mf, mn, mv, new, whole⟩ i j ⟨ck, cv⟩ = some ⟨ck, cv ++ [nearOf new mv]⟩ := by
            unfold compOne
            rw [if_neg (by simp [h1]), if_neg (by simp [h1]), if_pos hck, if_pos h3]
          rw [hco] at hnx
          have hcl := cloneI_ps cv (by omega)
          (repeat (first | refine WK ?_ | refine All.i fun X => ?_ | refine AllY.i fun Y => ?_))
          refine AWP.cond_t rfl a3 ?_
          refine AWP.rs fun Y2 => AWP.rs fun Y1 => ?_
          have hb : ((cv.map iA).length + [iA (nearOf new mv)].length) * 8 ≤ 140737488355328 := by simp; omega
          (repeat refine WF ?_); refine AWP.region_run (by kernel_rfl) (by kernel_rfl) ?_; (repeat (first | (refine RGo.gN ?_; first | (refine RGo.g_callf ?_; first | refine RGo.c2 (h := (near_ps ..)) (k := ?_)) | refine RGo.t1 (h := hcl) (k := ?_) | (refine RGo.g_lit ?_; refine RGo.goL (iA (nearOf new mv)) ?_)) | (refine RGo.gQ ?_; first | (refine RGo.g_callf ?_; first | refine RGo.c2 (h := (near_ps ..)) (k := ?_)) | refine RGo.t1 (h := hcl) (k := ?_) | (refine RGo.g_lit ?_; refine RGo.goL (iA (nearOf new mv)) ?_)) | refine RK ?_ | refine RGo.nil (by kernel_rfl) ?_))
          (repeat refine WF ?_)
          have hfz : AV.frzs (cv.map iA ++ [iA (nearOf new mv)]) = (cv ++ [nearOf new mv]).map iA := by rw [List.map_append, frzs_map, List.map_append, List.map_map]; rfl
          refine AWP.iceX Y2 ((cv ++ [nearOf new mv]).map iA) hfz (.cons (.agg (.cons .same (.cons (.base .sl) .nil))) .nil) ?_
          (repeat (first | (refine AOps.gN ?_; first | (refine AOps.g_lit ?_; refine AOps.goL (compA false ⟨ck, cv ++ [nearOf new mv]⟩) ?_)) | refine WK ?_ | refine All.i fun X => ?_ | refine AllY.i fun Y => ?_))
          refine lp_next4 (q + 1) Y _ _ ⟨h, ?_, ?_, ?_⟩
          · rw [List.length_append, ← hn]
          · show n + 1 ≤ q + 1; omega
          · rw [hnx, hM, List.map_append]; rfl
        · have h3 : act ≠ 3 := by simpa using a3
          (repeat (first | refine WK ?_ | refine All.i fun X => ?_ | refine AllY.i fun Y => ?_))
          refine AWP.cond_f rfl a3 ?_
          rcases Bool.eq_false_or_eq_true (decide (act = 4)) with a4 | a4
          · have h4 : act = 4 := by simpa using a4
            obtain ⟨j', hj', hjl⟩ := (hfc hck).1 h4
            subst hj'
            have hco : compOne ks ⟨act, mk, mf, mn, mv, new, whole⟩ i (j' : Int) ⟨ck, cv⟩ = some ⟨ck, cv.eraseIdx j'⟩ := by
              unfold compOne
              rw [if_neg (by simp [h1]), if_neg (by simp [h1]), if_pos hck, if_neg h3, if_pos h4, Int.toNat_natCast]
            rw [hco] at hnx
            have hcl := cloneI_ps cv (by omega)
            have hj40 : j' ≤ 1099511627776 := by dsimp only at hjl; omega
            dsimp only at hjl
            have hjm : j' < (cv.map iA).length := by omega
            (repeat (first | refine WK ?_ | refine All.i fun X => ?_ | refine AllY.i fun Y => ?_))
            refine AWP.cond_t rfl a4 ?_
            refine AWP.rs fun Y2 => ?_
            (repeat refine WF ?_); refine AWP.region ?_; (repeat (first | (refine AOps.gN ?_; first | (refine AOps.g_callf ?_; first | refine AOps.t1 (h := hcl) fun Y1 => ?_)) | refine WO ?_ | refine All.i fun X => ?_ | refine AllY.i fun Y => ?_))
            have hdel := (deleteI_sp Y1 (cv.map iA).length j' (cv.map iA) rfl hjm (by omega) (ints_free cv) (fun x hx => by obtain ⟨y, _, rfl⟩ := List.mem_map.1 hx; rfl)).used
            refine AOps.z3 (h := hdel) (hT := .ls (Y := Y2)) (k := ?_)
            (repeat (first | refine WO ?_ | refine All.i fun X => ?_ | refine AllY.i fun Y => ?_))
            (repeat first | refine AOps.nil ?_ | refine WF ?_)
            have hfz : AV.frzs ((cv.map iA).eraseIdx j') = (cv.eraseIdx j').map iA := by rw [eraseIdx_map, frzs_map, List.map_map]; rfl
            refine AWP.iceX Y2 ((cv.eraseIdx j').map iA) hfz (.cons (.agg (.cons .same (.cons (.base .sl) .nil))) .nil) ?_
            (repeat (first | (refine AOps.gN ?_; first | (refine AOps.g_lit ?_; refine AOps.goL (compA false ⟨ck, cv.eraseIdx j'⟩) ?_)) | refine WK ?_ | refine All.i fun X => ?_ | refine AllY.i fun Y => ?_))
            refine lp_next4 (q + 1) Y _ _ ⟨h, ?_, ?_, ?_⟩
            · rw [List.length_append, ← hn]
            · show n + 1 ≤ q + 1; omega
            · rw [hnx, hM, List.map_append]; rfl
          · have h4 : act ≠ 4 := by simpa using a4
            (repeat (first | refine WK ?_ | refine All.i fun X => ?_ | refine AllY.i fun Y => ?_))
            refine AWP.cond_f rfl a4 ?_
            rcases Bool.eq_false_or_eq_true (decide (act = 6)) with a6 | a6
            · have h6 : act = 6 := by simpa using a6
              obtain ⟨i', j', k, f, hi', hj', hki, hkj, hjl⟩ := (hfc hck).2 h6
              subst hi' hj'
              dsimp only at hjl
              obtain ⟨v, hv'⟩ : ∃ v, cv[j'] = v := ⟨_, rfl⟩
              have hva : cv[j']? = some v := by rw [List.getElem?_eq_getElem hjl, hv']
              have hco : compOne ks ⟨act, mk, mf, mn, mv, new, whole⟩ (i' : Int) (j' : Int) ⟨ck, cv⟩ = some ⟨ck, cv.set j' (nearOf f v)⟩ := by
                unfold compOne
                rw [if_neg (by simp [h1]), if_neg (by simp [h1]), if_pos hck, if_neg h3, if_neg h4, if_pos h6]; simp only [Int.toNat_natCast, hki, Option.bind_some, hkj, hva]
              rw [hco] at hnx
              have hcl := cloneI_ps cv (by omega)
              have hjm : j' < (cv.map iA).length := by omega
              have hatk : (ks.map (kindA false))[i']? = some (kindA false k) := by rw [List.getElem?_map, hki]; rfl
              have hatf : (k.fields.map fieldA)[j']? = some (fieldA f) := by rw [List.getElem?_map, hkj]; rfl
              have hatv : (cv.map iA)[j']? = some (iA v) := by rw [List.getElem?_map, hva]; rfl
              (repeat (first | refine WK ?_ | refine All.i fun X => ?_ | refine AllY.i fun Y => ?_))
              refine AWP.cond_t rfl a6 ?_
              (repeat refine WF ?_); refine AWP.region ?_; (repeat (first | (refine AOps.gN ?_; first | (refine AOps.g_callf ?_; first | refine AOps.t1 (h := hcl) fun Y1 => ?_)) | refine WO ?_ | refine All.i fun X => ?_ | refine AllY.i fun Y => ?_)); refine AOps.nil ?_; (repeat refine WN ?_)
              (repeat first | refine AOps.nil ?_ | refine WF ?_)
              (repeat refine WF ?_); refine AWP.region_run (by kernel_rfl) (by kernel_rfl) ?_; (repeat (first | (refine RGo.gN ?_; first | (refine RGo.g_callf ?_; first | refine RGo.c2 (h := (near_ps ..)) (k := ?_))) | (refine RGo.gQ ?_; first | (refine RGo.g_callf ?_; first | refine RGo.c2 (h := (near_ps ..)) (k := ?_))) | refine RK ?_ | refine RGo.nil (by kernel_rfl) ?_))
              (repeat refine WF ?_)
              have hfz : AV.frzs ((cv.map iA).set j' (iA (nearOf f v))) = (cv.set j' (nearOf f v)).map iA := by rw [← List.map_set, frzs_map, List.map_map]; rfl
              refine AWP.iceX Y1 ((cv.set j' (nearOf f v)).map iA) hfz (.cons (.agg (.cons .same (.cons (.base .sl) .nil))) .nil) ?_
              (repeat (first | (refine AOps.gN ?_; first | (refine AOps.g_lit ?_; refine AOps.goL (compA false ⟨ck, cv.set j' (nearOf f v)⟩) ?_)) | refine WK ?_ | refine All.i fun X => ?_ | refine AllY.i fun Y => ?_))
              refine lp_next4 (q + 1) Y _ _ ⟨h, ?_, ?_, ?_⟩
              · rw [List.length_append, ← hn]
              · show n + 1 ≤ q + 1; omega
              · rw [hnx, hM, List.map_append]; rfl
            · have h6 : act ≠ 6 := by simpa using a6
              have hco : compOne ks ⟨act, mk, mf, mn, mv, new, whole⟩ i j ⟨ck, cv⟩ = some ⟨ck, cv⟩ := by
                unfold compOne
                rw [if_neg (by simp [h1]), if_neg (by simp [h1]), if_pos hck, if_neg h3, if_neg h4, if_neg h6]
              rw [hco] at hnx
              (repeat (first | refine WK ?_ | refine All.i fun X => ?_ | refine AllY.i fun Y => ?_))
              refine AWP.cond_f rfl a6 ?_
              (repeat (first | (refine AOps.gN ?_; first | (refine AOps.g_lit ?_; refine AOps.goL (compA false ⟨ck, cv⟩) ?_)) | refine WK ?_ | refine All.i fun X => ?_ | refine AllY.i fun Y => ?_))
              refine lp_next4 (q + 1) Y _ _ ⟨h, ?_, ?_, ?_⟩
              · rw [List.length_append, ← hn]
              · show n + 1 ≤ q + 1; omega
              · rw [hnx, hM, List.map_append]; rfl
      · have hck : ck ≠ i := by simpa using g1
        have hco : compOne ks ⟨act, mk, mf, mn, mv, new, whole⟩ i j ⟨ck, cv⟩ = some ⟨ck, cv⟩ := by
          unfold compOne
          rw [if_neg (by simp [hck]), if_neg (by simp [h1]), if_neg hck]
        rw [hco] at hnx
        refine AWP.cond_f rfl g1 ?_
        (repeat (first | (refine AOps.gN ?_; first | (refine AOps.g_lit ?_; refine AOps.goL (compA false ⟨ck, cv⟩) ?_)) | refine WK ?_ | refine All.i fun X => ?_ | refine AllY.i fun Y => ?_))
        refine lp_next4 (q + 1) Y _ _ ⟨h, ?_, ?_, ?_⟩
        · rw [List.length_append, ← hn]
        · show n + 1 ≤ q + 1; omega
        · rw [hnx, hM, List.map_append]; rfl
  · have h : q = l.length := by rw [decide_eq_false_iff_not, hlm] at hc; omega
    rw [h, List.take_length] at hM
    subst hM
    (repeat (first | refine WK ?_ | refine All.i fun X => ?_ | refine AllY.i fun Y => ?_))
    (refine AWP.ret ?_; (repeat (first | refine inB_r ?_ | refine andThen_r ?_)); refine retQ_r ?_)
    exact ⟨[.sl O 0 n], [compsA true false (compsAt ks m i j l)], _, [], .cons (.tmp rfl) rfl .nil, .cons (.cell (.sl (p := 0) .here hn)) .nil, by exact Sub.f, rfl, rfl⟩
end Go.Proofs.Ytfkppbkipbbmaaa

namespace Go.Proofs.Ytfkppbkipbbmaaa
set_option linter.unusedVariables false
theorem entEql (a b c d : Int) (w : World) : (binOp .eql 33 (.agg #[.int .i64 a, .int .i64 b]) (.agg #[.int .i64 c, .int .i64 d])).run Try.prog w = .ok (.bool (decide (a = c) && decide (b = d))) w :=
  eql_two (by kernel_rfl) (by kernel_rfl) (by kernel_rfl) a b c d w
def sameE (a b : Ent) : Bool := decide (a.n = b.n) && decide (a.gen = b.gen)
theorem sameE_dec (a b : Ent) : sameE a b = decide (a = b) := by
  obtain ⟨n, g⟩ := a
  obtain ⟨n', g'⟩ := b
  rw [Bool.eq_iff_iff]
  simp [sameE]
end Go.Proofs.Ytfkppbkipbbmaaa

namespace Go.Proofs.Ytfkppbkipbbmaaa
set_option linter.unusedSimpArgs false
set_option linter.unusedVariables false

def nextV (l : List Int) (n : Int) : Int := if n < 1 then 0 else match l with | [] => 0 | x :: _ => x % n
def nextL (l : List Int) (n : Int) : List Int := if n < 1 then l else l.tail
theorem nextV_range (l : List Int) {n : Int} (h : 1 ≤ n) : 0 ≤ nextV l n ∧ nextV l n < n := by
  unfold nextV
  rw [if_neg (by omega)]
  split
  · omega
  · rename_i x _
    exact ⟨Int.emod_nonneg x (by omega), Int.emod_lt_of_pos x (by omega)⟩
/-- The names of kinds: spot, life, team, goal. -/
def kindName (k : Nat) : List UInt8 := match k with
  | 0 => [115, 112, 111, 116]
  | 1 => [108, 105, 102, 101]
  | 2 => [116, 101, 97, 109]
  | _ => [103, 111, 97, 108]
/-- The names of fields: x, y, z. -/
def fieldName (k : Nat) : List UInt8 := match k with
  | 0 => [120]
  | 1 => [121]
  | _ => [122]
def genField (i : Nat) (l : List Int) : Field × List Int :=
  if nextV (nextL (nextL l 9) 40) 8 = 7 then (⟨fieldName i, 32, -2147483648⟩, nextL (nextL (nextL l 9) 40) 8)
  else (⟨fieldName i, 1 + nextV l 9, nextV (nextL l 9) 40 - 30⟩, nextL (nextL (nextL l 9) 40) 8)
def genFields : Nat → Nat → List Int → List Field × List Int
  | _, 0, l => ([], l)
  | i, c + 1, l => ((genField i l).1 :: (genFields (i + 1) c (genField i l).2).1, (genFields (i + 1) c (genField i l).2).2)
def genKind (k : Nat) (l : List Int) : Kind × List Int :=
  (⟨kindName k, (genFields 0 (1 + nextV l 3).toNat (nextL l 3)).1⟩, (genFields 0 (1 + nextV l 3).toNat (nextL l 3)).2)
def genKindsFrom : Nat → Nat → List Int → List Kind × List Int
  | _, 0, l => ([], l)
  | k, c + 1, l => ((genKind k l).1 :: (genKindsFrom (k + 1) c (genKind k l).2).1, (genKindsFrom (k + 1) c (genKind k l).2).2)
def genKinds (l : List Int) : List Kind × List Int := genKindsFrom 0 (1 + nextV l 4).toNat (nextL l 4)
end Go.Proofs.Ytfkppbkipbbmaaa

namespace Go.Proofs.Ytfkppbkipbbmaaa
set_option linter.unusedVariables false
theorem below_ps (x n : Int) (hn : 1 ≤ n) (h2 : n ≤ 4611686018427387904) : PS Try.prog 31 [iA x, iA n] (iA (x % n)) := by
  refine Spec.of (nt := 14) (res := [.tmp 4]) Try.func31 rfl (by kernel_rfl) rfl rfl rfl fun Sf => ?_
  have h3 : x.tmod n < n := Int.tmod_lt_of_pos _ (by omega)
  have h4 : -n < x.tmod n := by
    have := Int.lt_tmod_of_pos x (b := n) (by omega)
    exact this
  have h5 : x.tmod n = x % n ∨ x.tmod n + n = x % n ∧ x.tmod n < 0 := by
    rw [Int.tmod_eq_emod]
    split
    · exact .inl (by simp)
    · have := Int.emod_nonneg x (b := n) (by omega)
      have := Int.emod_lt_of_pos x (b := n) (by omega)
      refine .inr ?_
      have : ((n.natAbs : Nat) : Int) = n := by omega
      omega
  have h6 := Int.emod_nonneg x (b := n) (by omega)
  (repeat (first | (refine AOps.gN ?_; first | refine AOps.p (W.rem rfl rfl (by omega)) rfl ?_) | refine WK ?_ | refine All.i fun X => ?_ | refine AllY.i fun Y => ?_))
  refine AWP.cond rfl (fun hb => ?_) (fun hb => ?_)
  · have hb : x.tmod n < 0 := by simpa using hb
    (repeat (first | refine WK ?_ | refine All.i fun X => ?_ | refine AllY.i fun Y => ?_))
    (refine AWP.ret ?_; (repeat (first | refine inB_r ?_ | refine andThen_r ?_)); refine retQ_r ?_)
    exact Ends.plain rfl rfl (by exact Sub.f) ⟨by rw [show x.tmod n + n = x % n from by omega], rfl⟩
  · have hb : ¬ x.tmod n < 0 := by simpa using hb
    (repeat (first | refine WK ?_ | refine All.i fun X => ?_ | refine AllY.i fun Y => ?_))
    (refine AWP.ret ?_; (repeat (first | refine inB_r ?_ | refine andThen_r ?_)); refine retQ_r ?_)
    exact Ends.plain rfl rfl (by exact Sub.f) ⟨by rw [show x.tmod n = x % n from by omega], rfl⟩
abbrev streamO (l : List Int) : AO := .row 84 1 [.agg [intsA false l]]
theorem next_po (X : Nat) (l : List Int) (n : Int) (h2 : n ≤ 4611686018427387904) : PO Try.prog 44 [.ptr X 0 0, iA n] X (streamO l) (iA (nextV l n)) (streamO (nextL l n)) := by
  refine Spec.of (nt := 33) (res := [.tmp 4]) Try.func44 rfl (by kernel_rfl) rfl rfl rfl fun Sf => ?_
  (repeat (first | refine WK ?_ | refine All.i fun X => ?_ | refine AllY.i fun Y => ?_))
  refine AWP.cond rfl (fun hb => ?_) (fun hb => ?_)
  · (repeat (first | refine WK ?_ | refine All.i fun X => ?_ | refine AllY.i fun Y => ?_))
    (refine AWP.ret ?_; (repeat (first | refine inB_r ?_ | refine andThen_r ?_)); refine retQ_r ?_)
    have hb : l.length = 0 ∨ n < 1 := by simp only [Bool.or_eq_true, decide_eq_true_eq, List.length_map] at hb; omega
    have e1 : nextV l n = 0 := by
      unfold nextV
      split
      · rfl
      · rcases hb with hb | hb
        · rw [List.length_eq_zero_iff.1 hb]
        · omega
    have e2 : nextL l n = l := by
      unfold nextL
      split
      · rfl
      · rcases hb with hb | hb
        · rw [List.length_eq_zero_iff.1 hb]; rfl
        · omega
    rw [e1, e2]
    exact Ends.plainS rfl rfl (by exact Sub.f) ⟨rfl, rfl⟩
  · have hb : l.length ≠ 0 ∧ 1 ≤ n := by simp only [Bool.or_eq_false_iff, decide_eq_false_iff_not, List.length_map] at hb; omega
    obtain ⟨hb, hn⟩ := hb
    cases l with
    | nil => exact absurd rfl hb
    | cons x l =>
    (repeat (first | (refine AOps.gN ?_; first | refine AOps.p (W.idxL rfl rfl (a := 0) rfl rfl) rfl ?_ | refine AOps.p (W.loL rfl rfl (a := 1) rfl (by simp)) rfl ?_ | refine AOps.p (W.call2 rfl rfl (below_ps _ _ hn h2) rfl) rfl ?_) | refine WK ?_ | refine All.i fun X => ?_ | refine AllY.i fun Y => ?_))
    (refine AWP.ret ?_; (repeat (first | refine inB_r ?_ | refine andThen_r ?_)); refine retQ_r ?_)
    rw [show nextV (x :: l) n = x % n from by unfold nextV; rw [if_neg (by omega)], show nextL (x :: l) n = l from by unfold nextL; rw [if_neg (by omega)]; rfl]
    exact Ends.plainS (S' := [(X, streamO l)]) rfl rfl (by exact Sub.f) ⟨rfl, rfl⟩
end Go.Proofs.Ytfkppbkipbbmaaa

namespace Go.Proofs.Ytfkppbkipbbmaaa
set_option linter.unusedVariables false
/-- The first i fields, kinds out of a stream, and the stream behind them. -/
def fAt : Nat → List Int → List Field × List Int
  | 0, l => ([], l)
  | i + 1, l => ((fAt i l).1 ++ [(genField i (fAt i l).2).1], (genField i (fAt i l).2).2)
def kAt : Nat → List Int → List Kind × List Int
  | 0, l => ([], l)
  | i + 1, l => ((kAt i l).1 ++ [(genKind i (kAt i l).2).1], (genKind i (kAt i l).2).2)
theorem fAt_len (i : Nat) (l : List Int) : (fAt i l).1.length = i := by
  induction i with
  | zero => rfl
  | succ i ih => simp [fAt, ih]
theorem kAt_len (i : Nat) (l : List Int) : (kAt i l).1.length = i := by
  induction i with
  | zero => rfl
  | succ i ih => simp [kAt, ih]
theorem fAt_gen (c i : Nat) (l : List Int) : ((fAt i l).1 ++ (genFields i c (fAt i l).2).1, (genFields i c (fAt i l).2).2) = fAt (i + c) l := by
  induction c generalizing i with
  | zero => simp [genFields]
  | succ c ih =>
    rw [show i + (c + 1) = (i + 1) + c from by omega, ← ih (i + 1)]
    simp [genFields, fAt]
theorem kAt_gen (c i : Nat) (l : List Int) : ((kAt i l).1 ++ (genKindsFrom i c (kAt i l).2).1, (genKindsFrom i c (kAt i l).2).2) = kAt (i + c) l := by
  induction c generalizing i with
  | zero => simp [genKindsFrom]
  | succ c ih =>
    rw [show i + (c + 1) = (i + 1) + c from by omega, ← ih (i + 1)]
    simp [genKindsFrom, kAt]
theorem genFields_at (c : Nat) (l : List Int) : genFields 0 c l = fAt c l := by
  have := fAt_gen c 0 l
  simpa [fAt] using this
theorem genKinds_at (l : List Int) : genKinds l = kAt (1 + nextV l 4).toNat (nextL l 4) := by
  have := kAt_gen (1 + nextV l 4).toNat 0 (nextL l 4)
  simpa [kAt, genKinds] using this
theorem knames_at {i : Nat} (h : i < 4) : [sA [115, 112, 111, 116], sA [108, 105, 102, 101], sA [116, 101, 97, 109], sA [103, 111, 97, 108]][i]? = some (sA (kindName i)) := by
  have : i = 0 ∨ i = 1 ∨ i = 2 ∨ i = 3 := by omega
  rcases this with rfl | rfl | rfl | rfl <;> rfl
theorem fnames_at {i : Nat} (h : i < 3) : [sA [120], sA [121], sA [122]][i]? = some (sA (fieldName i)) := by
  have : i = 0 ∨ i = 1 ∨ i = 2 := by omega
  rcases this with rfl | rfl | rfl <;> rfl
theorem kinds_po (G : Nat) (l : List Int) : PO Try.prog 43 [.ptr G 0 0] G (streamO l) (kindsA true false (genKinds l).1) (streamO (genKinds l).2) := by
  refine Spec.of (nt := 55) (res := [.tmp 2]) Try.func43 rfl (by kernel_rfl) rfl rfl rfl fun Sf => ?_
  have h0 := nextV_range l (n := 4) (by decide)
  (repeat (first | (refine AOps.gN ?_; first | (refine AOps.g_callf ?_; first | refine AOps.o2 (h := (next_po G _ _ (by decide))) (k := ?_))) | refine WK ?_ | refine All.i fun X => ?_ | refine AllY.i fun Y => ?_))

  refine AWP.adopt (d := 3) 44 2 rfl fun K => ?_
  obtain ⟨c, hc⟩ : ∃ c : Nat, 1 + nextV l 4 = c := ⟨(1 + nextV l 4).toNat, by omega⟩
  obtain ⟨l0, hl0⟩ : ∃ l0, nextL l 4 = l0 := ⟨_, rfl⟩
  have hg : genKinds l = kAt c l0 := by rw [genKinds_at, hl0, show (1 + nextV l 4).toNat = c from by omega]
  rw [hg, hl0, hc]
  have hc4 : 1 ≤ c ∧ c ≤ 4 := by omega
  clear hg hl0 hc h0
  refine AWP.lp4 (fun (i K : Nat) (M : List AV) (q : List Int) => ⟨[(0, .ptr G 0 0), (3, .sl K 0 i), (10, iA c), (11, iA i)], (K, .row 44 2 M) :: (G, streamO q) :: Sf⟩) (fun i _ M q => i ≤ c ∧ M = (kAt i l0).1.map (kindA false) ∧ M.length = i ∧ q = (kAt i l0).2) (fun i _ _ _ => c - i) 0 K [] l0 ⟨Nat.zero_le _, rfl, rfl, rfl⟩ ?_
  rintro i K M q ⟨hi, hM, hMl, hq⟩
  (repeat (first | refine WK ?_ | refine All.i fun X => ?_ | refine AllY.i fun Y => ?_))
  refine AWP.cond rfl (fun hb => ?_) (fun hb => ?_)
  · have h : i < c := by rw [decide_eq_true_eq] at hb; omega
    have h4 : i < 4 := by omega
    have h3 := nextV_range q (n := 3) (by decide)
    have hkn := knames_at h4
    (repeat (first | (refine AOps.gN ?_; first | (refine AOps.g_callf ?_; first | refine AOps.o2 (h := (next_po G _ _ (by decide))) (k := ?_))) | refine WK ?_ | refine All.i fun Y => ?_ | refine AllY.i fun Y => ?_))
    refine AWP.adoptIn (Y := Y) 41 3 .here (fun F => .cons (.agg (.cons .same (.cons (.base .nil) .nil))) .nil) fun F => ?_
    obtain ⟨l1, hl1⟩ : ∃ l1, nextL q 3 = l1 := ⟨_, rfl⟩
    obtain ⟨c1, hc1⟩ : ∃ c1 : Nat, 1 + nextV q 3 = c1 := ⟨(1 + nextV q 3).toNat, by omega⟩
    have hgk : kAt (i + 1) l0 = ((kAt i l0).1 ++ [⟨kindName i, (fAt c1 l1).1⟩], (fAt c1 l1).2) := by
      rw [kAt, ← hq, genKind, genFields_at, show (1 + nextV q 3).toNat = c1 from by omega, hl1]
    rw [hl1, hc1]
    have hc13 : c1 ≤ 3 := by omega
    refine AWP.lp4 (fun (j F : Nat) (L : List AV) (r : List Int) => ⟨[(0, .ptr G 0 0), (3, .sl K 0 i), (5, .ptr Y 0 0), (10, iA c), (11, iA i), (21, iA c1), (22, iA j)], (F, .row 41 3 L) :: (Y, .row 44 2 [.agg [sA (kindName i), .sl F 0 j]]) :: (K, .row 44 2 M) :: (G, streamO r) :: Sf⟩) (fun j _ L r => j ≤ c1 ∧ L = (fAt j l1).1.map fieldA ∧ L.length = j ∧ r = (fAt j l1).2) (fun j _ _ _ => c1 - j) 0 F [] l1 ⟨Nat.zero_le _, rfl, rfl, rfl⟩ ?_
    rintro j F L r ⟨hj, hL, hLl, hr⟩
    (repeat (first | refine WK ?_ | refine All.i fun X => ?_ | refine AllY.i fun Y => ?_))
    refine AWP.cond rfl (fun hd => ?_) (fun hd => ?_)
    · have hj' : j < c1 := by rw [decide_eq_true_eq] at hd; omega
      have h9 := nextV_range r (n := 9) (by decide)
      have h40 := nextV_range (nextL r 9) (n := 40) (by decide)
      have hfn := fnames_at (i := j) (by omega)
      (repeat (first | refine WK ?_ | refine All.i fun X => ?_ | refine AllY.i fun Y => ?_))
      refine AWP.rs fun X7 => ?_
      (repeat refine WF ?_); refine AWP.region_run (by kernel_rfl) (by kernel_rfl) ?_; (repeat (first | (refine RGo.gN ?_; first | (refine RGo.g_callf ?_; first | refine RGo.o2 (h := (next_po G _ _ (by decide))) (k := ?_))) | (refine RGo.gQ ?_; first | (refine RGo.g_callf ?_; first | refine RGo.o2 (h := (next_po G _ _ (by decide))) (k := ?_))) | refine RK ?_ | refine RGo.nil (by kernel_rfl) ?_))
      (repeat (first | (refine AOps.gN ?_; first | (refine AOps.g_callf ?_; first | refine AOps.o2 (h := (next_po G _ _ (by decide))) (k := ?_))) | refine WK ?_ | refine All.i fun X => ?_ | refine AllY.i fun Y => ?_))
      refine AWP.cond rfl (fun he => ?_) (fun he => ?_)
      · have he : nextV (nextL (nextL r 9) 40) 8 = 7 := by simpa using he
        have hg : genField j r = (⟨fieldName j, 32, -2147483648⟩, nextL (nextL (nextL r 9) 40) 8) := by rw [genField, if_pos he]
        (repeat (first | (refine AOps.gN ?_; first | (refine AOps.g_lit ?_; refine AOps.goL (fieldA ⟨fieldName j, 32, -2147483648⟩) ?_)) | refine WK ?_ | refine All.i fun X => ?_ | refine AllY.i fun Y => ?_))
        refine lp_next4 (j + 1) Y _ _ ⟨hj', ?_, ?_, ?_⟩
        · rw [fAt, ← hr, hg, hL, List.map_append]; rfl
        · rw [List.length_append, hLl]; rfl
        · rw [fAt, ← hr, hg]
      · have he : nextV (nextL (nextL r 9) 40) 8 ≠ 7 := by simpa using he
        have hg : genField j r = (⟨fieldName j, 1 + nextV r 9, nextV (nextL r 9) 40 - 30⟩, nextL (nextL (nextL r 9) 40) 8) := by rw [genField, if_neg he]
        (repeat (first | (refine AOps.gN ?_; first | (refine AOps.g_lit ?_; refine AOps.goL (fieldA ⟨fieldName j, 1 + nextV r 9, nextV (nextL r 9) 40 - 30⟩) ?_)) | refine WK ?_ | refine All.i fun X => ?_ | refine AllY.i fun Y => ?_))
        refine lp_next4 (j + 1) Y _ _ ⟨hj', ?_, ?_, ?_⟩
        · rw [fAt, ← hr, hg, hL, List.map_append]; rfl
        · rw [List.length_append, hLl]; rfl
        · rw [fAt, ← hr, hg]
    · have hj' : j = c1 := by rw [decide_eq_false_iff_not] at hd; omega
      subst hj'
      (repeat first | refine AOps.nil ?_ | refine WF ?_)
      refine AWP.iceIn (X := F) (Y := Y) .here (.next .here) rfl (.cons (.agg (.cons .same (.cons (.base (.sl (by omega))) .nil))) .nil) ?_
      have hF : AV.frzs ((L.drop 0).take j) = (fAt j l1).1.map fieldA := by
        rw [List.drop_zero, List.take_of_length_le (by omega), hL]
        exact Frzs.h
      rw [hF]
      (repeat (first | (refine AOps.gN ?_; first | (refine AOps.g_lit ?_; refine AOps.goL (kindA false ⟨kindName i, (fAt j l1).1⟩) ?_)) | refine WK ?_ | refine All.i fun X => ?_ | refine AllY.i fun Y => ?_))
      refine lp_next4 (i + 1) Y _ _ ⟨h, ?_, ?_, ?_⟩
      · rw [hgk, hM, List.map_append]; rfl
      · rw [List.length_append, hMl]; rfl
      · rw [hgk, hr]
  · have h : i = c := by rw [decide_eq_false_iff_not] at hb; omega
    subst h
    (repeat (first | refine WK ?_ | refine All.i fun X => ?_ | refine AllY.i fun Y => ?_))
    (refine AWP.ret ?_; (repeat (first | refine inB_r ?_ | refine andThen_r ?_)); refine retQ_r ?_)
    subst hM hq
    refine ⟨[.sl K 0 i], [.lst true 44 2 ((kAt i l0).1.map (kindA false))], _, [(G, streamO (kAt i l0).2)], .cons (.tmp rfl) rfl .nil, .cons (.cell (.sl (p := 0) .here (by rw [List.length_map, kAt_len]))) .nil, by exact Sub.f, rfl, rfl⟩
end Go.Proofs.Ytfkppbkipbbmaaa

namespace Go.Proofs.Ytfkppbkipbbmaaa
set_option linter.unusedVariables false
def baseKind : Kind := ⟨[108, 105, 102, 101], [⟨[120], 8, 0⟩]⟩
def baseWd : Wd := ⟨[baseKind], [0], [⟨⟨0, 0⟩, [⟨0, [9]⟩]⟩]⟩
theorem base_ps : PS Try.prog 47 [] (wdA false baseWd) := by
  refine Spec.of (nt := 14) (res := [.cell 0 26]) Try.func47 rfl (by kernel_rfl) rfl rfl rfl fun Sf => ?_
  (repeat (first | refine WK ?_ | refine All.i fun X => ?_ | refine AllY.i fun Y => ?_))
  (refine AWP.ret ?_; (repeat (first | refine inB_r ?_ | refine andThen_r ?_)); refine retQ_r ?_)
  refine Ends.id (rs := [wdA false baseWd]) rfl (.cons (.cell (p := 0) rfl .here TAg.h TSize.h rfl rfl) rfl .nil)
theorem equalI_ps (a b : List Int) (hl : a.length ≤ 1099511627776) : PS Try.prog 20 [intsA false a, intsA false b] (bA (decide (a = b))) := by
  refine Spec.of (nt := 26) (res := [.tmp 4]) Try.func20 rfl (by kernel_rfl) rfl rfl rfl fun Sf => ?_
  (repeat (first | refine WK ?_ | refine All.i fun X => ?_ | refine AllY.i fun Y => ?_))
  refine AWP.cond rfl (fun hb => ?_) (fun hb => ?_)
  · have hb : a.length ≠ b.length := by simp at hb; omega
    (repeat (first | refine WK ?_ | refine All.i fun X => ?_ | refine AllY.i fun Y => ?_))
    (refine AWP.ret ?_; (repeat (first | refine inB_r ?_ | refine andThen_r ?_)); refine retQ_r ?_); refine Ends.ps ?_
    rw [decide_eq_false fun e => hb (by rw [e])]
  · have hb : a.length = b.length := by simp at hb; omega
    (repeat (first | refine WK ?_ | refine All.i fun X => ?_ | refine AllY.i fun Y => ?_))
    refine AWP.lp (fun i : Nat => ⟨[(0, intsA false a), (1, intsA false b), (12, iA (a.map iA).length), (13, iA i)], Sf⟩) (fun i => i ≤ a.length ∧ ∀ j (h : j < a.length), j < i → a[j] = b[j]'(by omega)) (fun i => a.length - i) 0 ⟨Nat.zero_le _, fun j h hj => absurd hj (by omega)⟩ ?_
    rintro i ⟨hi, he⟩
    (repeat (first | refine WK ?_ | refine All.i fun X => ?_ | refine AllY.i fun Y => ?_))
    refine AWP.cond rfl (fun hc => ?_) (fun hc => ?_)
    · have h : i < a.length := by simpa using hc
      have h' : i < b.length := by omega
      (repeat (first | refine WK ?_ | refine All.i fun X => ?_ | refine AllY.i fun Y => ?_))
      (repeat refine WF ?_); refine AWP.region_run (by kernel_rfl) (by kernel_rfl) ?_; (repeat (first | refine RK ?_ | refine RGo.nil (by kernel_rfl) ?_))
      (repeat (first | refine WK ?_ | refine All.i fun X => ?_ | refine AllY.i fun Y => ?_))
      refine AWP.cond rfl (fun hd => ?_) (fun hd => ?_)
      · have hd : a[i] ≠ b[i] := by simpa using hd
        (repeat (first | refine WK ?_ | refine All.i fun X => ?_ | refine AllY.i fun Y => ?_))
        (refine AWP.ret ?_; (repeat (first | refine inB_r ?_ | refine andThen_r ?_)); refine retQ_r ?_); refine Ends.ps ?_
        rw [decide_eq_false fun e => hd (by subst e; rfl)]
      · have hd : a[i] = b[i] := by simpa using hd
        (repeat (first | refine WK ?_ | refine All.i fun X => ?_ | refine AllY.i fun Y => ?_))
        refine lp_next (i + 1) ⟨h, fun j h1 h2 => ?_⟩
        by_cases e : j = i
        · subst e; exact hd
        · exact he j h1 (by omega)
    · have h : ¬ i < a.length := by simpa using hc
      (repeat (first | refine WK ?_ | refine All.i fun X => ?_ | refine AllY.i fun Y => ?_))
      (refine AWP.ret ?_; (repeat (first | refine inB_r ?_ | refine andThen_r ?_)); refine retQ_r ?_); refine Ends.ps ?_
      rw [decide_eq_true (List.ext_getElem hb fun j h1 h2 => he j h1 (by omega))]
end Go.Proofs.Ytfkppbkipbbmaaa

namespace Go.Proofs.Ytfkppbkipbbmaaa
set_option linter.unusedVariables false
def eqF {α : Type} (p : α → α → Bool) : List α → List α → Bool
  | [], [] => true
  | x :: xs, y :: ys => p x y && eqF p xs ys
  | _, _ => false
theorem eqF_len {α : Type} {p : α → α → Bool} : {a b : List α} → a.length ≠ b.length → eqF p a b = false
  | [], [], h => absurd rfl h
  | [], _ :: _, _ => rfl
  | _ :: _, [], _ => rfl
  | x :: xs, y :: ys, h => by rw [eqF, eqF_len (by simpa using h), Bool.and_false]
theorem eqF_no {α : Type} {p : α → α → Bool} : {a b : List α} → (hl : a.length = b.length) → {i : Nat} → (h : i < a.length) → p a[i] (b[i]'(by omega)) = false → eqF p a b = false
  | [], _, _, _, h, _ => absurd h (by simp)
  | x :: xs, [], hl, _, _, _ => by simp at hl
  | x :: xs, y :: ys, hl, 0, h, hp => by rw [eqF, show p x y = false from hp, Bool.false_and]
  | x :: xs, y :: ys, hl, i + 1, h, hp => by
    rw [eqF, eqF_no (a := xs) (b := ys) (by simpa using hl) (i := i) (by simpa using h) hp, Bool.and_false]
theorem eqF_yes {α : Type} {p : α → α → Bool} : {a b : List α} → (hl : a.length = b.length) → (∀ i (h : i < a.length), p a[i] (b[i]'(by omega)) = true) → eqF p a b = true
  | [], [], _, _ => rfl
  | [], _ :: _, hl, _ => by simp at hl
  | x :: xs, [], hl, _ => by simp at hl
  | x :: xs, y :: ys, hl, h => by
    rw [eqF, show p x y = true from h 0 (by simp), eqF_yes (a := xs) (b := ys) (by simpa using hl) fun i hi => h (i + 1) (by simpa using hi)]; rfl
/-- A test that tells equality. -/
theorem eqF_eq {α : Type} {p : α → α → Bool} [DecidableEq α] : {a b : List α} → (∀ x ∈ a, ∀ y ∈ b, p x y = decide (x = y)) → eqF p a b = decide (a = b)
  | [], [], _ => rfl
  | [], _ :: _, _ => rfl
  | _ :: _, [], _ => rfl
  | x :: xs, y :: ys, h => by
    rw [eqF, h x (by simp) y (by simp), eqF_eq fun u hu v hv => h u (by simp [hu]) v (by simp [hv])]
    by_cases e : x = y <;> by_cases e2 : xs = ys <;> simp [e, e2]
end Go.Proofs.Ytfkppbkipbbmaaa

namespace Go.Proofs.Ytfkppbkipbbmaaa
set_option linter.unusedVariables false
theorem equalFuncC_ps (a b : List Comp) (f : FuncId) (cap : List AV) (p : Comp → Comp → Bool) (hs : st1s cap = true) (hl : a.length ≤ 4611686018427387904) (hf : ∀ x ∈ a, ∀ y ∈ b, PS Try.prog f ((compA false) x :: (compA false) y :: cap) (bA (p x y))) :
    PS Try.prog 95 [.lst false 141 2 (a.map (compA false)), .lst false 141 2 (b.map (compA false)), .fn f cap] (bA (eqF p a b)) := by
  refine Spec.of (nt := 32) (res := [.tmp 6]) Try.func95 rfl (by kernel_rfl) rfl rfl rfl fun Sf => ?_
  (repeat (first | refine WK ?_ | refine All.i fun X => ?_ | refine AllY.i fun Y => ?_))
  refine AWP.cond rfl (fun hb => ?_) (fun hb => ?_)
  · have hb : a.length ≠ b.length := by simp at hb; omega
    (repeat (first | refine WK ?_ | refine All.i fun X => ?_ | refine AllY.i fun Y => ?_))
    (refine AWP.ret ?_; (repeat (first | refine inB_r ?_ | refine andThen_r ?_)); refine retQ_r ?_); refine Ends.ps ?_
    rw [eqF_len hb]
  · have hb : a.length = b.length := by simp at hb; omega
    (repeat (first | refine WK ?_ | refine All.i fun X => ?_ | refine AllY.i fun Y => ?_))
    refine AWP.lp (fun i : Nat => ⟨[(0, .lst false 141 2 (a.map (compA false))), (1, .lst false 141 2 (b.map (compA false))), (2, .fn f cap), (15, .lst false 141 2 (a.map (compA false))), (16, iA (a.map (compA false)).length), (17, iA i)], Sf⟩) (fun i => i ≤ a.length ∧ ∀ j (h : j < a.length), j < i → p a[j] (b[j]'(by omega)) = true) (fun i => a.length - i) 0 ⟨Nat.zero_le _, fun j h hj => absurd hj (by omega)⟩ ?_
    rintro i ⟨hi, he⟩
    (repeat (first | refine WK ?_ | refine All.i fun X => ?_ | refine AllY.i fun Y => ?_))
    refine AWP.cond rfl (fun hc => ?_) (fun hc => ?_)
    · have h : i < a.length := by simpa using hc
      have h' : i < b.length := by omega
      (repeat (first | (refine AOps.gN ?_; first | (refine AOps.g_callv ?_; first | refine AOps.k2 (h := (hf _ (List.getElem_mem h) _ (List.getElem_mem h'))) (k := ?_))) | refine WK ?_ | refine All.i fun X => ?_ | refine AllY.i fun Y => ?_))
      refine AWP.cond rfl (fun hd => ?_) (fun hd => ?_)
      · have hd : p a[i] b[i] = false := by simpa using hd
        (repeat (first | refine WK ?_ | refine All.i fun X => ?_ | refine AllY.i fun Y => ?_))
        (refine AWP.ret ?_; (repeat (first | refine inB_r ?_ | refine andThen_r ?_)); refine retQ_r ?_); refine Ends.ps ?_
        rw [eqF_no hb h hd]
      · have hd : p a[i] b[i] = true := by simpa using hd
        (repeat (first | refine WK ?_ | refine All.i fun X => ?_ | refine AllY.i fun Y => ?_))
        refine lp_next (i + 1) ⟨h, fun j h1 h2 => ?_⟩
        by_cases e : j = i
        · subst e; exact hd
        · exact he j h1 (by omega)
    · have h : ¬ i < a.length := by simpa using hc
      (repeat (first | refine WK ?_ | refine All.i fun X => ?_ | refine AllY.i fun Y => ?_))
      (refine AWP.ret ?_; (repeat (first | refine inB_r ?_ | refine andThen_r ?_)); refine retQ_r ?_); refine Ends.ps ?_
      rw [eqF_yes hb fun j hj => he j hj (by omega)]
end Go.Proofs.Ytfkppbkipbbmaaa

namespace Go.Proofs.Ytfkppbkipbbmaaa
set_option linter.unusedVariables false
theorem equalFuncT_ps (a b : List Item) (f : FuncId) (cap : List AV) (p : Item → Item → Bool) (hs : st1s cap = true) (hl : a.length ≤ 4611686018427387904) (hf : ∀ x ∈ a, ∀ y ∈ b, PS Try.prog f ((itemA false) x :: (itemA false) y :: cap) (bA (p x y))) :
    PS Try.prog 56 [.lst false 36 3 (a.map (itemA false)), .lst false 36 3 (b.map (itemA false)), .fn f cap] (bA (eqF p a b)) := by
  refine Spec.of (nt := 32) (res := [.tmp 6]) Try.func56 rfl (by kernel_rfl) rfl rfl rfl fun Sf => ?_
  (repeat (first | refine WK ?_ | refine All.i fun X => ?_ | refine AllY.i fun Y => ?_))
  refine AWP.cond rfl (fun hb => ?_) (fun hb => ?_)
  · have hb : a.length ≠ b.length := by simp at hb; omega
    (repeat (first | refine WK ?_ | refine All.i fun X => ?_ | refine AllY.i fun Y => ?_))
    (refine AWP.ret ?_; (repeat (first | refine inB_r ?_ | refine andThen_r ?_)); refine retQ_r ?_); refine Ends.ps ?_
    rw [eqF_len hb]
  · have hb : a.length = b.length := by simp at hb; omega
    (repeat (first | refine WK ?_ | refine All.i fun X => ?_ | refine AllY.i fun Y => ?_))
    refine AWP.lp (fun i : Nat => ⟨[(0, .lst false 36 3 (a.map (itemA false))), (1, .lst false 36 3 (b.map (itemA false))), (2, .fn f cap), (15, .lst false 36 3 (a.map (itemA false))), (16, iA (a.map (itemA false)).length), (17, iA i)], Sf⟩) (fun i => i ≤ a.length ∧ ∀ j (h : j < a.length), j < i → p a[j] (b[j]'(by omega)) = true) (fun i => a.length - i) 0 ⟨Nat.zero_le _, fun j h hj => absurd hj (by omega)⟩ ?_
    rintro i ⟨hi, he⟩
    (repeat (first | refine WK ?_ | refine All.i fun X => ?_ | refine AllY.i fun Y => ?_))
    refine AWP.cond rfl (fun hc => ?_) (fun hc => ?_)
    · have h : i < a.length := by simpa using hc
      have h' : i < b.length := by omega
      (repeat (first | (refine AOps.gN ?_; first | (refine AOps.g_callv ?_; first | refine AOps.k2 (h := (hf _ (List.getElem_mem h) _ (List.getElem_mem h'))) (k := ?_))) | refine WK ?_ | refine All.i fun X => ?_ | refine AllY.i fun Y => ?_))
      refine AWP.cond rfl (fun hd => ?_) (fun hd => ?_)
      · have hd : p a[i] b[i] = false := by simpa using hd
        (repeat (first | refine WK ?_ | refine All.i fun X => ?_ | refine AllY.i fun Y => ?_))
        (refine AWP.ret ?_; (repeat (first | refine inB_r ?_ | refine andThen_r ?_)); refine retQ_r ?_); refine Ends.ps ?_
        rw [eqF_no hb h hd]
      · have hd : p a[i] b[i] = true := by simpa using hd
        (repeat (first | refine WK ?_ | refine All.i fun X => ?_ | refine AllY.i fun Y => ?_))
        refine lp_next (i + 1) ⟨h, fun j h1 h2 => ?_⟩
        by_cases e : j = i
        · subst e; exact hd
        · exact he j h1 (by omega)
    · have h : ¬ i < a.length := by simpa using hc
      (repeat (first | refine WK ?_ | refine All.i fun X => ?_ | refine AllY.i fun Y => ?_))
      (refine AWP.ret ?_; (repeat (first | refine inB_r ?_ | refine andThen_r ?_)); refine retQ_r ?_); refine Ends.ps ?_
      rw [eqF_yes hb fun j hj => he j hj (by omega)]
end Go.Proofs.Ytfkppbkipbbmaaa

namespace Go.Proofs.Ytfkppbkipbbmaaa
set_option linter.unusedVariables false
theorem fieldNeq (f g : Field) (w : World) : (binOp .neq 41 (.agg [strA f.name, .int .i64 f.bits, .int .i64 f.low].toArray) (.agg [strA g.name, .int .i64 g.bits, .int .i64 g.low].toArray)).run Try.prog w = .ok (.bool (decide (f ≠ g))) w := by
  have h := eq_three (P := Try.prog) (t := 41) (by kernel_rfl) (by kernel_rfl) (by kernel_rfl) ⟨f.name.toArray⟩ ⟨g.name.toArray⟩ f.bits f.low g.bits g.low w
  rw [run_neq_struct]
  have e : (Op.equalIn 10000 41 (.agg [strA f.name, .int .i64 f.bits, .int .i64 f.low].toArray) (.agg [strA g.name, .int .i64 g.bits, .int .i64 g.low].toArray)).run Try.prog w = _ := h
  rw [e, Result.andThen_ok, toList_mk, toList_mk]
  have hd : (!(decide (f.name = g.name) && decide (f.bits = g.bits) && decide (f.low = g.low))) = decide (f ≠ g) := by
    obtain ⟨n, b, l⟩ := f
    obtain ⟨n', b', l'⟩ := g
    rw [Bool.eq_iff_iff]
    simp [or_assoc]
  rw [hd]
/-- Bounds on the lengths of lists. -/
def KsL (ks : List Kind) : Prop := ks.length ≤ 1099511627776 ∧ ∀ k ∈ ks, k.fields.length ≤ 1099511627776
def CsL (cs : List Comp) : Prop := cs.length ≤ 1099511627776 ∧ ∀ c ∈ cs, c.vals.length ≤ 1099511627776
def ItL (l : List Item) : Prop := l.length ≤ 1099511627776 ∧ ∀ it ∈ l, CsL it.comps
structure WdL (w : Wd) : Prop where
  ks : KsL w.kinds
  gens : w.gens.length ≤ 1099511627776
  items : ItL w.items
theorem compEq (x y : Comp) : (decide (x.kind = y.kind) && decide (x.vals = y.vals)) = decide (x = y) := by
  obtain ⟨k, v⟩ := x
  obtain ⟨k', v'⟩ := y
  rw [Bool.eq_iff_iff]
  simp
theorem itemEq (x y : Item) : (sameE x.ent y.ent && decide (x.comps = y.comps)) = decide (x = y) := by
  rw [sameE_dec]
  obtain ⟨k, v⟩ := x
  obtain ⟨k', v'⟩ := y
  rw [Bool.eq_iff_iff]
  simp
theorem wdEq (x y : Wd) : (decide (x.kinds = y.kinds) && decide (x.gens = y.gens) && decide (x.items = y.items)) = decide (x = y) := by
  obtain ⟨k, v, u⟩ := x
  obtain ⟨k', v', u'⟩ := y
  rw [Bool.eq_iff_iff]
  simp [and_assoc]
end Go.Proofs.Ytfkppbkipbbmaaa

namespace Go.Proofs.Ytfkppbkipbbmaaa
set_option linter.unusedSimpArgs false
set_option linter.unusedVariables false

theorem genFields_len (i c : Nat) (l : List Int) : (genFields i c l).1.length = c := by
  induction c generalizing i l with
  | zero => rfl
  | succ c ih => simp [genFields, ih]
theorem genFields_names (i c : Nat) (l : List Int) : (genFields i c l).1.map (·.name) = (List.range' i c).map fieldName := by
  induction c generalizing i l with
  | zero => rfl
  | succ c ih =>
    have : (genField i l).1.name = fieldName i := by unfold genField; split <;> rfl
    simp [genFields, ih, List.range'_succ, this]
theorem genKindsFrom_len (k c : Nat) (l : List Int) : (genKindsFrom k c l).1.length = c := by
  induction c generalizing k l with
  | zero => rfl
  | succ c ih => simp [genKindsFrom, ih]
theorem genKindsFrom_names (k c : Nat) (l : List Int) : (genKindsFrom k c l).1.map (·.name) = (List.range' k c).map kindName := by
  induction c generalizing k l with
  | zero => rfl
  | succ c ih => simp [genKindsFrom, ih, List.range'_succ, genKind]

theorem fieldName_ok (i : Nat) : nameOk (fieldName i) = true := by
  unfold fieldName
  split <;> decide
theorem kindName_ok (i : Nat) : nameOk (kindName i) = true := by
  unfold kindName
  split <;> decide
theorem genField_ok (i : Nat) (l : List Int) : fieldErr (genField i l).1 = 0 := by
  have h1 := nextV_range l (n := 9) (by omega)
  have h2 := nextV_range (nextL l 9) (n := 40) (by omega)
  unfold genField
  split
  · simp [fieldErr, fieldName_ok]
  · simp [fieldErr, fieldName_ok]
    omega
theorem genFields_ok (i c : Nat) (l : List Int) : ∀ f ∈ (genFields i c l).1, fieldErr f = 0 := by
  induction c generalizing i l with
  | zero => intro f h; simp [genFields] at h
  | succ c ih =>
    intro f h
    simp only [genFields, List.mem_cons] at h
    rcases h with rfl | h
    · exact genField_ok i l
    · exact ih _ _ f h

theorem fieldsErr_nil0 : ∀ (fs pre : List Field), (∀ f ∈ fs, fieldErr f = 0) → ((pre ++ fs).map (·.name)).Nodup → fieldsErr pre fs = 0 := by
  intro fs
  induction fs with
  | nil => intro pre _ _; rfl
  | cons f fs ih =>
    intro pre h hn
    have h1 := h f (by simp)
    have h2 : pre.any (fun o => o.name == f.name) = false := by
      rw [List.any_eq_false]
      intro o ho
      simp only [beq_iff_eq]
      intro e
      rw [List.map_append, List.nodup_append] at hn
      exact hn.2.2 o.name (List.mem_map_of_mem ho) f.name (by simp) e
    simp only [fieldsErr, h1, h2]
    simp
    exact ih _ (fun x hx => h x (by simp [hx])) (by simpa using hn)
theorem kindsErr_zero : ∀ (ks pre : List Kind), (∀ k ∈ ks, oneErr k = 0) → ((pre ++ ks).map (·.name)).Nodup → kindsErr pre ks = 0 := by
  intro fs
  induction fs with
  | nil => intro pre _ _; rfl
  | cons f fs ih =>
    intro pre h hn
    have h1 := h f (by simp)
    have h2 : pre.any (fun o => o.name == f.name) = false := by
      rw [List.any_eq_false]
      intro o ho
      simp only [beq_iff_eq]
      intro e
      rw [List.map_append, List.nodup_append] at hn
      exact hn.2.2 o.name (List.mem_map_of_mem ho) f.name (by simp) e
    simp only [kindsErr, h1, h2]
    simp
    exact ih _ (fun x hx => h x (by simp [hx])) (by simpa using hn)
theorem fieldNames_nodup {c : Nat} (h : c ≤ 3) : ((List.range' 0 c).map fieldName).Nodup := by
  have : c = 0 ∨ c = 1 ∨ c = 2 ∨ c = 3 := by omega
  rcases this with rfl | rfl | rfl | rfl <;> decide
theorem kindNames_nodup {c : Nat} (h : c ≤ 4) : ((List.range' 0 c).map kindName).Nodup := by
  have : c = 0 ∨ c = 1 ∨ c = 2 ∨ c = 3 ∨ c = 4 := by omega
  rcases this with rfl | rfl | rfl | rfl | rfl <;> decide
theorem genKind_ok (k : Nat) (l : List Int) : oneErr (genKind k l).1 = 0 := by
  have h1 := nextV_range l (n := 3) (by omega)
  have h2 : (1 + nextV l 3).toNat ≤ 3 := by omega
  have h3 := fieldsErr_nil0 (genFields 0 (1 + nextV l 3).toNat (nextL l 3)).1 [] (genFields_ok _ _ _) (by
    rw [List.nil_append, genFields_names]
    exact fieldNames_nodup h2)
  have h4 := genFields_len 0 (1 + nextV l 3).toNat (nextL l 3)
  unfold oneErr genKind
  simp only [kindName_ok, h3, h4, if_true]
  rw [if_neg (by omega)]
theorem genKindsFrom_ok (i c : Nat) (l : List Int) : ∀ f ∈ (genKindsFrom i c l).1, oneErr f = 0 := by
  induction c generalizing i l with
  | zero => intro f h; simp [genKindsFrom] at h
  | succ c ih =>
    intro f h
    simp only [genKindsFrom, List.mem_cons] at h
    rcases h with rfl | h
    · exact genKind_ok i l
    · exact ih _ _ f h
theorem genKinds_len (l : List Int) : 1 ≤ (genKinds l).1.length ∧ (genKinds l).1.length ≤ 4 := by
  have h := nextV_range l (n := 4) (by omega)
  unfold genKinds
  rw [genKindsFrom_len]
  omega
theorem genKinds_nodup (l : List Int) : ((genKinds l).1.map (·.name)).Nodup := by
  have h := nextV_range l (n := 4) (by omega)
  unfold genKinds
  rw [genKindsFrom_names]
  exact kindNames_nodup (by omega)
theorem genKinds_ok (l : List Int) : ∀ k ∈ (genKinds l).1, oneErr k = 0 := genKindsFrom_ok _ _ _
theorem genKinds_check (l : List Int) : checkErr (genKinds l).1 = 0 := by
  unfold checkErr
  have := genKinds_len l
  rw [if_neg (by omega)]
  exact kindsErr_zero _ [] (genKinds_ok l) (genKinds_nodup l)
end Go.Proofs.Ytfkppbkipbbmaaa

namespace Go.Proofs.Ytfkppbkipbbmaaa
set_option linter.unusedVariables false
theorem near_low {f : Field} (h : fieldErr f = 0) (v : Int) : f.low ≤ nearOf f v ∧ nearOf f v ≤ highOf f := by
  have := highOf_bd h
  unfold nearOf
  rw [if_pos h]
  omega
theorem near_in {f : Field} (h : fieldErr f = 0) {v : Int} (h1 : f.low ≤ v) (h2 : v ≤ highOf f) : nearOf f v = v := by
  unfold nearOf
  rw [if_pos h]
  omega
theorem near_near {f : Field} (h : fieldErr f = 0) (v : Int) : nearOf f (nearOf f v) = nearOf f v := near_in h (near_low h v).1 (near_low h v).2
theorem fitOf_ok {k : Kind} (h : oneErr k = 0) {vals : List Int} (hl : vals.length = k.fields.length) : fitOf k vals = (List.zipWith nearOf k.fields vals, 0) := by
  unfold fitOf
  rw [if_neg (by simp [h]), if_neg (by simp [hl])]
theorem genKind_fields (k : Nat) (l : List Int) : (∀ f ∈ (genKind k l).1.fields, fieldErr f = 0) ∧ (genKind k l).1.fields.length ≤ 3 := by
  have h1 := nextV_range l (n := 3) (by omega)
  refine ⟨genFields_ok _ _ _, ?_⟩
  show (genFields _ _ _).1.length ≤ 3
  rw [genFields_len]
  omega
theorem genKindsFrom_fields (i c : Nat) (l : List Int) : ∀ k ∈ (genKindsFrom i c l).1, (∀ f ∈ k.fields, fieldErr f = 0) ∧ k.fields.length ≤ 3 := by
  induction c generalizing i l with
  | zero => intro f h; simp [genKindsFrom] at h
  | succ c ih =>
    intro f h
    simp only [genKindsFrom, List.mem_cons] at h
    rcases h with rfl | h
    · exact genKind_fields i l
    · exact ih _ _ f h
theorem genKinds_fields (l : List Int) : ∀ k ∈ (genKinds l).1, (∀ f ∈ k.fields, fieldErr f = 0) ∧ k.fields.length ≤ 3 := genKindsFrom_fields _ _ _
end Go.Proofs.Ytfkppbkipbbmaaa

namespace Go.Proofs.Ytfkppbkipbbmaaa
set_option linter.unusedSimpArgs false
set_option linter.unusedVariables false
/-- The values for the first i fields. -/
def vAt (fs : List Field) (l : List Int) : Nat → List Int × List Int
  | 0 => ([], l)
  | i + 1 => match fs[i]? with
    | some f => ((vAt fs l i).1 ++ [f.low + nextV (vAt fs l i).2 (2 ^ f.bits.toNat)], nextL (vAt fs l i).2 (2 ^ f.bits.toNat))
    | none => vAt fs l i
/-- The components of the first i kinds. -/
def cAt (ks : List Kind) (l : List Int) : Nat → List Comp × List Int
  | 0 => ([], l)
  | i + 1 => match ks[i]? with
    | some k => if nextV (cAt ks l i).2 3 = 2 then ((cAt ks l i).1, nextL (cAt ks l i).2 3)
      else ((cAt ks l i).1 ++ [⟨i, (vAt k.fields (nextL (cAt ks l i).2 3) k.fields.length).1⟩], (vAt k.fields (nextL (cAt ks l i).2 3) k.fields.length).2)
    | none => cAt ks l i
def genComps (ks : List Kind) (l : List Int) : List Comp × List Int := cAt ks l ks.length
/-- The generations and items of the first i slots. -/
def wAt (ks : List Kind) (l : List Int) : Nat → List Int × List Item × List Int
  | 0 => ([], [], l)
  | i + 1 =>
    if nextV (nextL (wAt ks l i).2.2 3) 4 = 3 ∨ (wAt ks l i).2.1.length = 8 then ((wAt ks l i).1 ++ [nextV (wAt ks l i).2.2 3], (wAt ks l i).2.1, nextL (nextL (wAt ks l i).2.2 3) 4)
    else ((wAt ks l i).1 ++ [nextV (wAt ks l i).2.2 3], (wAt ks l i).2.1 ++ [⟨⟨i, nextV (wAt ks l i).2.2 3⟩, (genComps ks (nextL (nextL (wAt ks l i).2.2 3) 4)).1⟩], (genComps ks (nextL (nextL (wAt ks l i).2.2 3) 4)).2)
def genWorld (l : List Int) : Wd :=
  ⟨(genKinds l).1, (wAt (genKinds l).1 (nextL (genKinds l).2 12) (nextV (genKinds l).2 12).toNat).1, (wAt (genKinds l).1 (nextL (genKinds l).2 12) (nextV (genKinds l).2 12).toNat).2.1⟩
/-- Fields whose values are small numbers. -/
def FieldOK (f : Field) : Prop := 0 ≤ f.bits ∧ f.bits ≤ 32 ∧ -2147483648 ≤ f.low ∧ f.low ≤ 2147483648
def KindsOK (ks : List Kind) : Prop := ks.length ≤ 1099511627776 ∧ ∀ k ∈ ks, k.fields.length ≤ 1099511627776 ∧ ∀ f ∈ k.fields, FieldOK f
end Go.Proofs.Ytfkppbkipbbmaaa

namespace Go.Proofs.Ytfkppbkipbbmaaa
set_option linter.unusedVariables false
theorem vAt_len (fs : List Field) (l : List Int) (i : Nat) : (vAt fs l i).1.length ≤ i := by
  induction i with
  | zero => simp [vAt]
  | succ i ih => rw [vAt]; split <;> (try simp only [List.length_append, List.length_singleton]) <;> omega
theorem cAt_len (ks : List Kind) (l : List Int) (i : Nat) : (cAt ks l i).1.length ≤ i := by
  induction i with
  | zero => simp [cAt]
  | succ i ih => rw [cAt]; split <;> (try split) <;> (try simp only [List.length_append, List.length_singleton]) <;> omega
theorem vAt_next {fs : List Field} {l : List Int} {i : Nat} (h : i < fs.length) : vAt fs l (i + 1) = ((vAt fs l i).1 ++ [fs[i].low + nextV (vAt fs l i).2 (2 ^ fs[i].bits.toNat)], nextL (vAt fs l i).2 (2 ^ fs[i].bits.toNat)) := by
  rw [vAt, List.getElem?_eq_getElem h]
theorem cAt_no {ks : List Kind} {l : List Int} {i : Nat} (h : i < ks.length) (h2 : nextV (cAt ks l i).2 3 = 2) : cAt ks l (i + 1) = ((cAt ks l i).1, nextL (cAt ks l i).2 3) := by
  rw [cAt, List.getElem?_eq_getElem h]; simp only; rw [if_pos h2]
theorem cAt_yes {ks : List Kind} {l : List Int} {i : Nat} (h : i < ks.length) (h2 : nextV (cAt ks l i).2 3 ≠ 2) : cAt ks l (i + 1) = ((cAt ks l i).1 ++ [⟨i, (vAt ks[i].fields (nextL (cAt ks l i).2 3) ks[i].fields.length).1⟩], (vAt ks[i].fields (nextL (cAt ks l i).2 3) ks[i].fields.length).2) := by
  rw [cAt, List.getElem?_eq_getElem h]; simp only; rw [if_neg h2]
theorem pow_small {b : Nat} (h : b ≤ 32) : (1 : Int) ≤ 2 ^ b ∧ (2 : Int) ^ b ≤ 4294967296 := by
  have h1 : (2 : Nat) ^ b ≤ 2 ^ 32 := Nat.pow_le_pow_right (by decide) h
  have h2 : 0 < (2 : Nat) ^ b := Nat.pow_pos (by decide)
  have h3 : ((2 : Int) ^ b) = (((2 : Nat) ^ b : Nat) : Int) := by simp
  rw [h3]
  have : (2 : Nat) ^ 32 = 4294967296 := by decide
  omega
theorem comps_po (G : Nat) (ks : List Kind) (l : List Int) (hk : KindsOK ks) : PO Try.prog 45 [kindsA false false ks, .ptr G 0 0] G (streamO l) (compsA true false (genComps ks l).1) (streamO (genComps ks l).2) := by
  refine Spec.of (nt := 50) (res := [.tmp 4]) Try.func45 rfl (by kernel_rfl) rfl rfl rfl fun Sf => ?_
  obtain ⟨hk0, hk1⟩ := hk
  (repeat refine WF ?_); refine AWP.region ?_; (repeat (first | refine WO ?_ | refine All.i fun X => ?_ | refine AllY.i fun Y => ?_)); refine AOps.nil ?_; (repeat refine WN ?_)
  (repeat refine WF ?_); refine AWP.region ?_; (repeat (first | refine WO ?_ | refine All.i fun X => ?_ | refine AllY.i fun Y => ?_)); refine AOps.nil ?_; (repeat refine WN ?_)
  (repeat refine WF ?_); refine AWP.region ?_; (repeat (first | refine WO ?_ | refine All.i fun X => ?_ | refine AllY.i fun Y => ?_)); refine AOps.nil ?_; (repeat refine WN ?_)
  (repeat first | refine AOps.nil ?_ | refine WF ?_)
  refine AWP.adopt (d := 5) 141 2 rfl fun K => ?_
  refine AWP.lp5 (fun (i K : Nat) (M : List AV) (n : Nat) (q : List Int) => ⟨[(1, .ptr G 0 0), (5, .sl K 0 n), (11, kindsA false false ks), (12, iA (ks.map (kindA false)).length), (13, iA i)], (K, .row 141 2 M) :: (G, streamO q) :: Sf⟩) (fun i _ M n q => i ≤ ks.length ∧ M = (cAt ks l i).1.map (compA false) ∧ n = M.length ∧ q = (cAt ks l i).2) (fun i _ _ _ _ => ks.length - i) 0 K [] 0 l ⟨Nat.zero_le _, rfl, rfl, rfl⟩ ?_
  rintro i K M n q ⟨hi, hM, hn, hq⟩
  (repeat (first | refine WK ?_ | refine All.i fun X => ?_ | refine AllY.i fun Y => ?_))
  refine AWP.cond rfl (fun hc => ?_) (fun hc => ?_)
  · have h : i < ks.length := by simpa using hc
    obtain ⟨hf0, hf1⟩ := hk1 _ (List.getElem_mem h)
    have h3 := nextV_range q (n := 3) (by decide)
    have hn1 : n + 1 ≤ 1099511627776 := by have := cAt_len ks l i; rw [hn, hM, List.length_map]; omega
    (repeat (first | (refine AOps.gN ?_; first | (refine AOps.g_callf ?_; first | refine AOps.o2 (h := (next_po G _ _ (by decide))) (k := ?_))) | refine WK ?_ | refine All.i fun X => ?_ | refine AllY.i fun Y => ?_))
    refine AWP.cond rfl (fun he => ?_) (fun he => ?_)
    · have he : nextV q 3 = 2 := by simpa using he
      (repeat (first | refine WK ?_ | refine All.i fun X => ?_ | refine AllY.i fun Y => ?_))
      refine lp_next5 (i + 1) K M n _ ⟨h, ?_, hn, ?_⟩
      · rw [cAt_no h (hq ▸ he), hM]
      · rw [cAt_no h (hq ▸ he), hq]
    · have he : nextV q 3 ≠ 2 := by simpa using he
      (repeat refine WF ?_); refine AWP.region ?_; (repeat (first | refine WO ?_ | refine All.i fun Y => ?_ | refine AllY.i fun Y => ?_)); refine AOps.nil ?_; (repeat refine WN ?_)
      refine AWP.adoptIn (Y := Y) 3 1 .here (fun F => .cons (.agg (.cons .same (.cons (.base .nil) .nil))) .nil) fun F => ?_
      (repeat (first | refine WK ?_ | refine All.i fun X => ?_ | refine AllY.i fun Y => ?_))
      obtain ⟨fs, hfs⟩ : ∃ fs, ks[i].fields = fs := ⟨_, rfl⟩
      obtain ⟨q1, hq1⟩ : ∃ q1, nextL q 3 = q1 := ⟨_, rfl⟩
      rw [hq1, hfs]
      have hck : cAt ks l (i + 1) = ((cAt ks l i).1 ++ [⟨i, (vAt fs q1 fs.length).1⟩], (vAt fs q1 fs.length).2) := by rw [cAt_yes h (hq ▸ he), ← hq, hq1, hfs]
      rw [hfs] at hf0 hf1
      refine AWP.lp5 (fun (j F : Nat) (L : List AV) (m : Nat) (r : List Int) => ⟨[(1, .ptr G 0 0), (5, .sl K 0 n), (6, iA i), (8, .ptr Y 0 0), (11, kindsA false false ks), (12, iA (ks.map (kindA false)).length), (13, iA i), (24, fieldsA false fs), (25, iA (fs.map fieldA).length), (26, iA j)], (F, .row 3 1 L) :: (Y, .row 141 2 [.agg [iA i, .sl F 0 m]]) :: (K, .row 141 2 M) :: (G, streamO r) :: Sf⟩) (fun j _ L m r => j ≤ fs.length ∧ L = (vAt fs q1 j).1.map iA ∧ m = L.length ∧ r = (vAt fs q1 j).2) (fun j _ _ _ _ => fs.length - j) 0 F [] 0 q1 ⟨Nat.zero_le _, rfl, rfl, rfl⟩ ?_
      rintro j F L m r ⟨hj, hL, hm, hr⟩
      (repeat (first | refine WK ?_ | refine All.i fun X => ?_ | refine AllY.i fun Y => ?_))
      refine AWP.cond rfl (fun hd => ?_) (fun hd => ?_)
      · have hj' : j < fs.length := by simpa using hd
        obtain ⟨hb0, hb1, hl0, hl1⟩ := hf1 _ (List.getElem_mem hj')
        obtain ⟨b, hb⟩ : ∃ b : Nat, fs[j].bits = b := ⟨fs[j].bits.toNat, by omega⟩
        have hp := pow_small (b := b) (by omega)
        have hw : IntKind.i64.wrap (1 * 2 ^ b) = 2 ^ b := by rw [Int.one_mul]; exact wrap_id (by omega) (by omega)
        have hv := nextV_range r (n := IntKind.i64.wrap (1 * 2 ^ b)) (by omega)
        have hm1 : m + 1 ≤ 1099511627776 := by have := vAt_len fs q1 j; rw [hm, hL, List.length_map]; omega
        (repeat (first | refine WK ?_ | refine All.i fun Z => ?_ | refine AllY.i fun Y => ?_))
        refine AWP.rs fun X7 => ?_
        (repeat refine WF ?_); refine AWP.region_run (by kernel_rfl) (by kernel_rfl) ?_; (repeat (first | (refine RGo.gN ?_; first | (refine RGo.g_callf ?_; first | refine RGo.o2 (h := (next_po G _ _ (by rw [hw]; omega))) (k := ?_)) | refine RGo.p (W.shl rfl rfl hb (by show b ≤ 64; omega)) rfl ?_ | refine RGo.p (W.add rfl rfl (by omega)) rfl ?_) | (refine RGo.gQ ?_; first | (refine RGo.g_callf ?_; first | refine RGo.o2 (h := (next_po G _ _ (by rw [hw]; omega))) (k := ?_)) | refine RGo.p (W.shl rfl rfl hb (by show b ≤ 64; omega)) rfl ?_ | refine RGo.p (W.add rfl rfl (by omega)) rfl ?_) | refine RK ?_ | refine RGo.nil (by kernel_rfl) ?_))
        (repeat (first | refine WK ?_ | refine All.i fun X => ?_ | refine AllY.i fun Y => ?_))
        have hva : vAt fs q1 (j + 1) = ((vAt fs q1 j).1 ++ [fs[j].low + nextV r (IntKind.i64.wrap (1 * 2 ^ b))], nextL r (IntKind.i64.wrap (1 * 2 ^ b))) := by rw [vAt_next hj', ← hr, hw, hb]; rfl
        refine lp_next5 (j + 1) X7 _ _ _ ⟨hj', ?_, ?_, ?_⟩
        · rw [hva, hL, List.map_append]; rfl
        · rw [List.length_append, hm]
        · rw [hva]
      · have hj' : j = fs.length := by rw [decide_eq_false_iff_not, List.length_map] at hd; omega
        subst hj'
        (repeat first | refine AOps.nil ?_ | refine WF ?_)
        refine AWP.iceIn (X := F) (Y := Y) .here (.next .here) rfl (.cons (.agg (.cons .same (.cons (.base (.sl (by omega))) .nil))) .nil) ?_
        have hF : AV.frzs ((L.drop 0).take m) = (vAt fs q1 fs.length).1.map iA := by
          rw [List.drop_zero, List.take_of_length_le (by omega), hL]
          exact Frzs.h
        rw [hF]
        (repeat (first | (refine AOps.gN ?_; first | (refine AOps.g_lit ?_; refine AOps.goL (compA false ⟨i, (vAt fs q1 fs.length).1⟩) ?_)) | refine WK ?_ | refine All.i fun X => ?_ | refine AllY.i fun Y => ?_))
        refine lp_next5 (i + 1) Y _ _ _ ⟨h, ?_, ?_, ?_⟩
        · rw [hck, hM, List.map_append]; rfl
        · rw [List.length_append, hn]
        · rw [hck, hr]
  · have h : i = ks.length := by rw [decide_eq_false_iff_not, List.length_map] at hc; omega
    subst h
    (repeat (first | refine WK ?_ | refine All.i fun X => ?_ | refine AllY.i fun Y => ?_))
    (refine AWP.ret ?_; (repeat (first | refine inB_r ?_ | refine andThen_r ?_)); refine retQ_r ?_)
    subst hM hq
    exact ⟨[.sl K 0 n], [.lst true 141 2 ((cAt ks l ks.length).1.map (compA false))], _, [(G, streamO (cAt ks l ks.length).2)], .cons (.tmp rfl) rfl .nil, .cons (.cell (.sl (p := 0) .here hn)) .nil, by exact Sub.f, rfl, rfl⟩
theorem wAt_len1 (ks : List Kind) (l : List Int) (i : Nat) : (wAt ks l i).1.length = i := by
  induction i with
  | zero => rfl
  | succ i ih => rw [wAt]; split <;> simp [ih]
theorem wAt_len2 (ks : List Kind) (l : List Int) (i : Nat) : (wAt ks l i).2.1.length ≤ i := by
  induction i with
  | zero => simp [wAt]
  | succ i ih => rw [wAt]; split <;> (try simp only [List.length_append, List.length_singleton]) <;> omega
/-- A made world: its lists of generations and items are its own. -/
def wdO (w : Wd) : AV := .agg [kindsA false false w.kinds, intsA true w.gens, itemsA true false w.items]
instance {w : Wd} : Frz (wdO w) (wdA false w) := ⟨by unfold wdO wdA; exact Frz.h⟩
theorem genField_rng (i : Nat) (l : List Int) : FieldOK (genField i l).1 := by
  have h9 := nextV_range l (n := 9) (by decide)
  have h40 := nextV_range (nextL l 9) (n := 40) (by decide)
  unfold genField
  split <;> refine ⟨?_, ?_, ?_, ?_⟩ <;> simp <;> omega
theorem fAt_rng (i : Nat) (l : List Int) : ∀ f ∈ (fAt i l).1, FieldOK f := by
  induction i with
  | zero => intro f hf; cases hf
  | succ i ih =>
    intro f hf
    rcases List.mem_append.1 hf with hf | hf
    · exact ih f hf
    · rw [List.mem_singleton.1 hf]; exact genField_rng _ _
theorem genKind_rng (k : Nat) (l : List Int) : (genKind k l).1.fields.length ≤ 3 ∧ ∀ f ∈ (genKind k l).1.fields, FieldOK f := by
  have h := nextV_range l (n := 3) (by decide)
  show (genFields 0 (1 + nextV l 3).toNat (nextL l 3)).1.length ≤ 3 ∧ ∀ f ∈ (genFields 0 (1 + nextV l 3).toNat (nextL l 3)).1, FieldOK f
  rw [genFields_at]
  exact ⟨by rw [fAt_len]; omega, fAt_rng _ _⟩
theorem kAt_rng (i : Nat) (l : List Int) : ∀ k ∈ (kAt i l).1, k.fields.length ≤ 3 ∧ ∀ f ∈ k.fields, FieldOK f := by
  induction i with
  | zero => intro f hf; cases hf
  | succ i ih =>
    intro f hf
    rcases List.mem_append.1 hf with hf | hf
    · exact ih f hf
    · rw [List.mem_singleton.1 hf]; exact genKind_rng _ _
theorem genKinds_cnt (l : List Int) : (genKinds l).1.length = (1 + nextV l 4).toNat := by rw [genKinds_at, kAt_len]
theorem genKinds_rng (l : List Int) : KindsOK (genKinds l).1 := by
  have h := nextV_range l (n := 4) (by decide)
  refine ⟨by rw [genKinds_cnt]; omega, ?_⟩
  rw [genKinds_at]
  intro k hk
  have := kAt_rng _ _ k hk
  exact ⟨by omega, this.2⟩
theorem world_ps (l : List Int) : PS Try.prog 11 [intsA false l] (wdO (genWorld l)) := by
  refine Spec.of (nt := 52) (res := [.cell 2 26]) Try.func11 rfl (by kernel_rfl) rfl rfl rfl fun Sf => ?_
  have hko := genKinds_rng l
  obtain ⟨ks, hks⟩ : ∃ ks, (genKinds l).1 = ks := ⟨_, rfl⟩
  obtain ⟨l1, hl1⟩ : ∃ l1, (genKinds l).2 = l1 := ⟨_, rfl⟩
  have h12 := nextV_range l1 (n := 12) (by decide)
  obtain ⟨c, hc⟩ : ∃ c : Nat, nextV l1 12 = c := ⟨(nextV l1 12).toNat, by omega⟩
  obtain ⟨l2, hl2⟩ : ∃ l2, nextL l1 12 = l2 := ⟨_, rfl⟩
  have hg : genWorld l = ⟨ks, (wAt ks l2 c).1, (wAt ks l2 c).2.1⟩ := by unfold genWorld; rw [hks, hl1, hl2, hc]; rfl
  have hkp := fun G => kinds_po G l
  rw [hks, hl1] at hkp
  rw [hks] at hko
  rw [hg]
  clear hg hks hl1
  (repeat refine WF ?_); refine AWP.region ?_; (repeat (first | refine WO ?_ | refine All.i fun R => ?_ | refine AllY.i fun Y => ?_)); refine AOps.nil ?_; (repeat refine WN ?_)
  (repeat refine WF ?_); refine AWP.region ?_; (repeat (first | refine WO ?_ | refine All.i fun G => ?_ | refine AllY.i fun Y => ?_)); refine AOps.nil ?_; (repeat refine WN ?_)
  (repeat refine WF ?_); refine AWP.region ?_; (repeat (first | (refine AOps.gN ?_; first | (refine AOps.g_callf ?_; first | refine AOps.o1 (h := (hkp G)) (k := ?_))) | refine WO ?_ | refine All.i fun V => ?_ | refine AllY.i fun Y => ?_)); refine AOps.nil ?_; (repeat refine WN ?_)
  (repeat refine WF ?_); refine AWP.region ?_; (repeat (first | (refine AOps.gN ?_; first | (refine AOps.g_callf ?_; first | refine AOps.o2 (h := (next_po G _ _ (by decide))) (k := ?_))) | refine WO ?_ | refine All.i fun X => ?_ | refine AllY.i fun Y => ?_)); refine AOps.nil ?_; (repeat refine WN ?_)
  rw [hl2, hc]
  refine AWP.adoptIn (Y := V) 36 3 (by exact At.f) (fun F => .cons (.agg (.cons .same (.cons .same (.cons (.base .nil) .nil)))) .nil) fun B => ?_
  refine AWP.adoptIn (Y := V) 3 1 (by exact At.f) (fun F => .cons (.agg (.cons .same (.cons (.base .nil) (.cons .same .nil)))) .nil) fun A => ?_
  (repeat first | refine AOps.nil ?_ | refine WF ?_)
  refine AWP.lp7 (fun (i A B : Nat) (L M : List AV) (n : Nat) (q : List Int) => ⟨[(2, .ptr R 0 0), (3, .ptr G 0 0), (4, .ptr V 0 0), (13, iA c), (14, iA i)], (A, .row 3 1 L) :: (B, .row 36 3 M) :: (V, .row 26 3 [.agg [kindsA false false ks, .sl A 0 i, .sl B 0 n]]) :: (G, streamO q) :: (R, .row 26 3 [.agg [.prim (.slice none 0 0), .prim (.slice none 0 0), .prim (.slice none 0 0)]]) :: Sf⟩) (fun i _ _ L M n q => i ≤ c ∧ L = (wAt ks l2 i).1.map iA ∧ M = (wAt ks l2 i).2.1.map (itemA false) ∧ n = M.length ∧ q = (wAt ks l2 i).2.2) (fun i _ _ _ _ _ _ => c - i) 0 A B [] [] 0 l2 ⟨Nat.zero_le _, rfl, rfl, rfl, rfl⟩ ?_
  rintro i A B L M n q ⟨hi, hL, hM, hn, hq⟩
  have hA := wAt_len1 ks l2 i
  have hB := wAt_len2 ks l2 i
  (repeat (first | refine WK ?_ | refine All.i fun X => ?_ | refine AllY.i fun Y => ?_))
  refine AWP.cond rfl (fun hd => ?_) (fun hd => ?_)
  · have h : i < c := by rw [decide_eq_true_eq] at hd; omega
    have h3 := nextV_range q (n := 3) (by decide)
    have h4 := nextV_range (nextL q 3) (n := 4) (by decide)
    (repeat refine WF ?_); refine AWP.region ?_; (repeat (first | refine WO ?_ | refine All.i fun X => ?_ | refine AllY.i fun Y => ?_)); refine AOps.nil ?_; (repeat refine WN ?_)
    refine AWP.rs fun X7 => ?_
    (repeat refine WF ?_); refine AWP.region_run (by kernel_rfl) (by kernel_rfl) ?_; (repeat (first | (refine RGo.gN ?_; first | (refine RGo.g_callf ?_; first | refine RGo.o2 (h := (next_po G _ _ (by decide))) (k := ?_))) | (refine RGo.gQ ?_; first | (refine RGo.g_callf ?_; first | refine RGo.o2 (h := (next_po G _ _ (by decide))) (k := ?_))) | refine RK ?_ | refine RGo.nil (by kernel_rfl) ?_))
    (repeat (first | (refine AOps.gN ?_; first | (refine AOps.g_callf ?_; first | refine AOps.o2 (h := (next_po G _ _ (by decide))) (k := ?_))) | refine WK ?_ | refine All.i fun X => ?_ | refine AllY.i fun Y => ?_))
    have hLl : L.length = i := by rw [hL, List.length_map, hA]
    obtain ⟨IT, hIT⟩ : ∃ IT, (wAt ks l2 i).2.1 = IT := ⟨_, rfl⟩
    rw [hIT] at hM hB
    have hnl : n = IT.length := by rw [hn, hM, List.length_map]
    have hat : (L ++ [.prim (.int .i64 (nextV q 3))])[i]? = some (.prim (.int .i64 (nextV q 3))) := by rw [← hLl]; simp
    refine AWP.cond rfl (fun he => ?_) (fun he => ?_)
    · have he : nextV (nextL q 3) 4 = 3 ∨ n = 8 := by rw [Bool.or_eq_true, decide_eq_true_eq, decide_eq_true_eq] at he; omega
      have hw : wAt ks l2 (i + 1) = ((wAt ks l2 i).1 ++ [nextV q 3], IT, nextL (nextL q 3) 4) := by rw [wAt, ← hq, hIT, ← hnl, if_pos he]
      (repeat (first | refine WK ?_ | refine All.i fun X => ?_ | refine AllY.i fun Y => ?_))
      refine lp_next7 (i + 1) X7 B _ M n _ ⟨h, ?_, ?_, hn, ?_⟩
      · rw [hw, hL, List.map_append]; rfl
      · rw [hw, hM]
      · rw [hw]
    · have he : ¬ (nextV (nextL q 3) 4 = 3 ∨ n = 8) := by rw [Bool.or_eq_false_iff, decide_eq_false_iff_not, decide_eq_false_iff_not] at he; omega
      have hw : wAt ks l2 (i + 1) = ((wAt ks l2 i).1 ++ [nextV q 3], IT ++ [⟨⟨i, nextV q 3⟩, (genComps ks (nextL (nextL q 3) 4)).1⟩], (genComps ks (nextL (nextL q 3) 4)).2) := by rw [wAt, ← hq, hIT, ← hnl, if_neg he]
      have hin : i < i + [AV.prim (.int .i64 (nextV q 3))].length := Nat.lt_succ_self i
      refine AWP.rs fun X8 => ?_
      (repeat refine WF ?_); refine AWP.region_run (by kernel_rfl) (by kernel_rfl) ?_; (repeat (first | (refine RGo.gN ?_; first | (refine RGo.g_callf ?_; first | refine RGo.o2 (h := (comps_po G ks _ hko)) (k := ?_)) | (refine RGo.g_lit ?_; refine RGo.goL (itemA false ⟨⟨i, nextV q 3⟩, (genComps ks (nextL (nextL q 3) 4)).1⟩) ?_)) | (refine RGo.gQ ?_; first | (refine RGo.g_callf ?_; first | refine RGo.o2 (h := (comps_po G ks _ hko)) (k := ?_)) | (refine RGo.g_lit ?_; refine RGo.goL (itemA false ⟨⟨i, nextV q 3⟩, (genComps ks (nextL (nextL q 3) 4)).1⟩) ?_)) | refine RK ?_ | refine RGo.nil (by kernel_rfl) ?_))
      (repeat (first | refine WK ?_ | refine All.i fun X => ?_ | refine AllY.i fun Y => ?_))
      refine lp_next7 (i + 1) X7 X8 _ _ _ _ ⟨h, ?_, ?_, ?_, ?_⟩
      · rw [hw, hL, List.map_append]; rfl
      · rw [hw, hM, List.map_append]; rfl
      · rw [List.length_append, hn]
      · rw [hw]
  · have h : i = c := by rw [decide_eq_false_iff_not] at hd; omega
    subst h
    (repeat (first | refine WK ?_ | refine All.i fun X => ?_ | refine AllY.i fun Y => ?_))
    (refine AWP.ret ?_; (repeat (first | refine inB_r ?_ | refine andThen_r ?_)); refine retQ_r ?_)
    subst hL hM
    have hA : i = ((wAt ks l2 i).1.map iA).length := by rw [List.length_map, hA]
    exact ⟨[.agg [kindsA false false ks, .sl A 0 i, .sl B 0 n]], [wdO ⟨ks, (wAt ks l2 i).1, (wAt ks l2 i).2.1⟩], _, [], .cons (.cell (p := 4) rfl (by exact At.f) TAg.h TSize.h rfl rfl) rfl .nil, .cons (.agg (.cons .same (.cons (.sl (p := 0) .here hA) (.cons (.sl (p := 0) .here hn) .nil)))) .nil, by exact Sub.f, rfl, rfl⟩
end Go.Proofs.Ytfkppbkipbbmaaa

namespace Go.Proofs.Ytfkppbkipbbmaaa
set_option linter.unusedVariables false
theorem cAt_mem {ks : List Kind} {l : List Int} {i : Nat} {c : Comp} (h : c ∈ (cAt ks l i).1) : ∃ (j : Nat) (hj : j < ks.length) (q : List Int), j < i ∧ c = ⟨j, (vAt ks[j].fields q ks[j].fields.length).1⟩ := by
  induction i with
  | zero => cases h
  | succ i ih =>
    by_cases hi : i < ks.length
    · by_cases h2 : nextV (cAt ks l i).2 3 = 2
      · rw [cAt_no hi h2] at h
        obtain ⟨j, hj, q, h3, h4⟩ := ih h
        exact ⟨j, hj, q, by omega, h4⟩
      · rw [cAt_yes hi h2] at h
        rcases List.mem_append.1 h with h | h
        · obtain ⟨j, hj, q, h3, h4⟩ := ih h
          exact ⟨j, hj, q, by omega, h4⟩
        · rw [List.mem_singleton.1 h]
          exact ⟨i, hi, _, by omega, rfl⟩
    · rw [cAt, List.getElem?_eq_none (by omega)] at h
      obtain ⟨j, hj, q, h3, h4⟩ := ih h
      exact ⟨j, hj, q, by omega, h4⟩
theorem wAt_mem {ks : List Kind} {l : List Int} {i : Nat} {it : Item} (h : it ∈ (wAt ks l i).2.1) : ∃ (j : Nat) (q : List Int), j < i ∧ (wAt ks l i).1[j]? = some it.ent.gen ∧ it.ent.n = j ∧ it.comps = (genComps ks q).1 := by
  induction i with
  | zero => cases h
  | succ i ih =>
    have hl := wAt_len1 ks l i
    have hup : ∀ (x : Int) (g : Int) (j : Nat), (wAt ks l i).1[j]? = some g → ((wAt ks l i).1 ++ [x])[j]? = some g := fun x g j hg => by
      rw [List.getElem?_append_left (List.getElem?_eq_some_iff.1 hg).1, hg]
    rw [wAt] at h ⊢
    split
    · rename_i hs
      rw [if_pos hs] at h
      obtain ⟨j, q, h1, h2, h3, h4⟩ := ih h
      exact ⟨j, q, by omega, hup _ _ _ h2, h3, h4⟩
    · rename_i hs
      rw [if_neg hs] at h
      rcases List.mem_append.1 h with h | h
      · obtain ⟨j, q, h1, h2, h3, h4⟩ := ih h
        exact ⟨j, q, by omega, hup _ _ _ h2, h3, h4⟩
      · rw [List.mem_singleton.1 h]
        exact ⟨i, _, by omega, by rw [List.getElem?_append_right (by omega), hl]; simp, rfl, rfl⟩
end Go.Proofs.Ytfkppbkipbbmaaa

namespace Go.Proofs.Ytfkppbkipbbmaaa
set_option linter.unusedVariables false
theorem heldFrom_iff {ks : List Kind} : ∀ {l : List Comp} {last : Int}, -1 ≤ last → (heldFrom ks last l = true ↔ l.Pairwise (fun a b => a.kind < b.kind) ∧ ∀ c ∈ l, last < c.kind ∧ c.kind < ks.length ∧ ∃ k, ks[c.kind.toNat]? = some k ∧ holdsOf k c.vals = true)
  | [], _, _ => by simp [heldFrom]
  | c :: l, last, hl => by
    rw [heldFrom]
    constructor
    · intro h
      split at h
      · rename_i k hk
        simp only [Bool.and_eq_true, decide_eq_true_eq] at h
        obtain ⟨⟨⟨h1, h2⟩, h3⟩, h4⟩ := h
        obtain ⟨h5, h6⟩ := (heldFrom_iff (by omega)).1 h4
        refine ⟨List.pairwise_cons.2 ⟨fun d hd => (h6 d hd).1, h5⟩, fun d hd => ?_⟩
        rcases List.mem_cons.1 hd with rfl | hd
        · exact ⟨h1, h2, k, hk, h3⟩
        · obtain ⟨q1, q2⟩ := h6 d hd
          exact ⟨by omega, q2⟩
      · cases h
    · rintro ⟨h1, h2⟩
      obtain ⟨h3, h4⟩ := List.pairwise_cons.1 h1
      obtain ⟨h5, h6, k, hk, h7⟩ := h2 c (by simp)
      rw [hk]
      simp only [Bool.and_eq_true, decide_eq_true_eq]
      exact ⟨⟨⟨h5, h6⟩, h7⟩, (heldFrom_iff (by omega)).2 ⟨h4, fun d hd => ⟨h3 d hd, (h2 d (by simp [hd])).2⟩⟩⟩
theorem itemsFrom_iff {ks : List Kind} {gens : List Int} : ∀ {l : List Item} {last : Int}, -1 ≤ last → (itemsFrom ks gens last l = true ↔ l.Pairwise (fun a b => a.ent.n < b.ent.n) ∧ ∀ it ∈ l, last < it.ent.n ∧ it.ent.n < gens.length ∧ gens[it.ent.n.toNat]? = some it.ent.gen ∧ it.ent.gen ≠ 1073741824 ∧ heldOf ks it.comps = true)
  | [], _, _ => by simp [itemsFrom]
  | c :: l, last, hl => by
    rw [itemsFrom]
    constructor
    · intro h
      split at h
      · rename_i k hk
        simp only [Bool.and_eq_true, decide_eq_true_eq, Bool.not_eq_true', decide_eq_false_iff_not] at h
        obtain ⟨⟨⟨⟨⟨h1, h2⟩, h3⟩, h4⟩, h7⟩, h8⟩ := h
        obtain ⟨h5, h6⟩ := (itemsFrom_iff (by omega)).1 h8
        refine ⟨List.pairwise_cons.2 ⟨fun d hd => (h6 d hd).1, h5⟩, fun d hd => ?_⟩
        rcases List.mem_cons.1 hd with rfl | hd
        · exact ⟨h1, h2, by rw [hk, h3], h4, h7⟩
        · obtain ⟨q1, q2⟩ := h6 d hd
          exact ⟨by omega, q2⟩
      · cases h
    · rintro ⟨h1, h2⟩
      obtain ⟨h3, h4⟩ := List.pairwise_cons.1 h1
      obtain ⟨h5, h6, hk, h7, h8⟩ := h2 c (by simp)
      rw [hk]
      simp only [Bool.and_eq_true, decide_eq_true_eq, Bool.not_eq_true', decide_eq_false_iff_not]
      exact ⟨⟨⟨⟨⟨h5, h6⟩, trivial⟩, h7⟩, h8⟩, (itemsFrom_iff (by omega)).2 ⟨h4, fun d hd => ⟨h3 d hd, (h2 d (by simp [hd])).2⟩⟩⟩
/-- What a valid world is. -/
structure WdOK (w : Wd) : Prop where
  ks : checkErr w.kinds = 0
  gl : w.gens.length ≤ 256
  il : w.items.length ≤ w.gens.length
  gs : ∀ g ∈ w.gens, 0 ≤ g ∧ g ≤ 1073741824
  so : w.items.Pairwise fun a b => a.ent.n < b.ent.n
  it : ∀ it ∈ w.items, 0 ≤ it.ent.n ∧ it.ent.n < w.gens.length ∧ w.gens[it.ent.n.toNat]? = some it.ent.gen ∧ it.ent.gen ≠ 1073741824 ∧ heldOf w.kinds it.comps = true
theorem wdErr_iff (w : Wd) : wdErr w = 0 ↔ WdOK w := by
  have hg : gensOk w.gens = true ↔ ∀ g ∈ w.gens, 0 ≤ g ∧ g ≤ 1073741824 := by
    unfold gensOk
    rw [List.all_eq_true]
    simp only [Bool.and_eq_true, decide_eq_true_eq]
  have hi := itemsFrom_iff (ks := w.kinds) (gens := w.gens) (l := w.items) (last := -1) (by omega)
  unfold wdErr
  constructor
  · intro h
    split at h
    · exact absurd h ‹_›
    rename_i h1
    split at h
    · cases h
    rename_i h2
    split at h
    · cases h
    rename_i h3
    split at h
    · cases h
    rename_i h4
    obtain ⟨h5, h6⟩ := hi.1 (by simpa using h4)
    exact ⟨by simpa using h1, by omega, by omega, hg.1 (by simpa using h3), h5, fun it hit => by obtain ⟨a, b⟩ := h6 it hit; exact ⟨by omega, b⟩⟩
  · intro h
    rw [if_neg (by simp [h.ks]), if_neg (by have := h.gl; have := h.il; omega), if_neg (by rw [hg.2 h.gs]; simp), if_neg (by rw [hi.2 ⟨h.so, fun it hit => by obtain ⟨a, b⟩ := h.it it hit; exact ⟨by omega, b⟩⟩]; simp)]
theorem cAt_pair (ks : List Kind) (l : List Int) (i : Nat) : (cAt ks l i).1.Pairwise fun a b => a.kind < b.kind := by
  induction i with
  | zero => exact .nil
  | succ i ih =>
    by_cases hi : i < ks.length
    · by_cases h2 : nextV (cAt ks l i).2 3 = 2
      · rw [cAt_no hi h2]; exact ih
      · rw [cAt_yes hi h2]
        refine List.pairwise_append.2 ⟨ih, List.pairwise_singleton .., fun a ha b hb => ?_⟩
        rw [List.mem_singleton.1 hb]
        obtain ⟨j, hj, q, hji, rfl⟩ := cAt_mem ha
        show (j : Int) < i
        omega
    · rw [cAt, List.getElem?_eq_none (by omega)]; exact ih
theorem vAt_fit {fs : List Field} (hf : ∀ f ∈ fs, fieldErr f = 0) (hr : ∀ f ∈ fs, FieldOK f) (l : List Int) : ∀ i, i ≤ fs.length → List.zipWith nearOf (fs.take i) (vAt fs l i).1 = (vAt fs l i).1 ∧ (vAt fs l i).1.length = i
  | 0, _ => ⟨rfl, rfl⟩
  | i + 1, h => by
    obtain ⟨h1, h2⟩ := vAt_fit hf hr l i (by omega)
    rw [vAt_next (by omega)]
    have hm := List.getElem_mem (l := fs) (n := i) (by omega)
    obtain ⟨hb0, hb1, _, _⟩ := hr _ hm
    have hp := pow_small (b := fs[i].bits.toNat) (by omega)
    have hv := nextV_range (vAt fs l i).2 (n := 2 ^ fs[i].bits.toNat) (by omega)
    have hh : highOf fs[i] = fs[i].low + (2 ^ fs[i].bits.toNat - 1) := by unfold highOf; rw [if_pos (hf _ hm)]
    refine ⟨?_, by rw [List.length_append, h2]; rfl⟩
    rw [List.take_succ_eq_append_getElem (by omega), List.zipWith_append (by rw [h2, List.length_take]; omega), h1]
    simp only [List.zipWith_cons_cons, List.zipWith_nil_left]
    rw [near_in (hf _ hm) (by omega) (by rw [hh]; omega)]
theorem vAt_holds {k : Kind} (h1 : oneErr k = 0) (hf : ∀ f ∈ k.fields, fieldErr f = 0) (hr : ∀ f ∈ k.fields, FieldOK f) (l : List Int) : holdsOf k (vAt k.fields l k.fields.length).1 = true := by
  obtain ⟨h2, h3⟩ := vAt_fit hf hr l k.fields.length (Nat.le_refl _)
  rw [List.take_length] at h2
  unfold holdsOf
  rw [fitOf_ok h1 h3, h2]
  simp
/-- Kinds as they are made. -/
structure KsGood (ks : List Kind) : Prop where
  one : ∀ k ∈ ks, oneErr k = 0
  fld : ∀ k ∈ ks, ∀ f ∈ k.fields, fieldErr f = 0
  rng : ∀ k ∈ ks, ∀ f ∈ k.fields, FieldOK f
theorem genKinds_good (l : List Int) : KsGood (genKinds l).1 :=
  ⟨genKinds_ok l, fun k hk => (genKinds_fields l k hk).1, fun k hk => ((genKinds_rng l).2 k hk).2⟩
theorem genComps_held {ks : List Kind} (h : KsGood ks) (l : List Int) : heldOf ks (genComps ks l).1 = true := by
  unfold heldOf
  rw [heldFrom_iff (by omega)]
  refine ⟨cAt_pair _ _ _, fun c hc => ?_⟩
  obtain ⟨j, hj, q, _, rfl⟩ := cAt_mem hc
  have hm := List.getElem_mem hj
  exact ⟨by show (-1 : Int) < (j : Int); omega, by show (j : Int) < _; omega, ks[j], List.getElem?_eq_getElem hj, vAt_holds (h.one _ hm) (h.fld _ hm) (h.rng _ hm) q⟩
theorem wAt_pair (ks : List Kind) (l : List Int) (i : Nat) : (wAt ks l i).2.1.Pairwise fun a b => a.ent.n < b.ent.n := by
  induction i with
  | zero => exact .nil
  | succ i ih =>
    rw [wAt]
    split
    · exact ih
    · refine List.pairwise_append.2 ⟨ih, List.pairwise_singleton .., fun a ha b hb => ?_⟩
      rw [List.mem_singleton.1 hb]
      obtain ⟨j, q, hji, _, e, _⟩ := wAt_mem ha
      show a.ent.n < (i : Int)
      omega
theorem wAt_gens (ks : List Kind) (l : List Int) (i : Nat) : ∀ g ∈ (wAt ks l i).1, 0 ≤ g ∧ g < 3 := by
  induction i with
  | zero => intro g hg; cases hg
  | succ i ih =>
    intro g hg
    rw [wAt] at hg
    have h3 := nextV_range (wAt ks l i).2.2 (n := 3) (by decide)
    split at hg <;>
    · rcases List.mem_append.1 hg with hg | hg
      · exact ih g hg
      · rw [List.mem_singleton.1 hg]; exact h3
/-- Made worlds are valid. -/
theorem genWorld_ok (l : List Int) : WdOK (genWorld l) := by
  have h := nextV_range (genKinds l).2 (n := 12) (by decide)
  have h1 := wAt_len2 (genKinds l).1 (nextL (genKinds l).2 12) (nextV (genKinds l).2 12).toNat
  have h2 := wAt_len1 (genKinds l).1 (nextL (genKinds l).2 12) (nextV (genKinds l).2 12).toNat
  have h3 := wAt_gens (genKinds l).1 (nextL (genKinds l).2 12) (nextV (genKinds l).2 12).toNat
  refine ⟨genKinds_check l, ?_, ?_, fun g hg => ?_, wAt_pair _ _ _, fun it hit => ?_⟩
  · exact Nat.le_trans (Nat.le_of_eq h2) (by omega)
  · exact Nat.le_trans h1 (Nat.le_of_eq h2.symm)
  · have := h3 g hg; omega
  · obtain ⟨j, q, hji, hg, hn, hc⟩ := wAt_mem hit
    have hjl : j < (wAt (genKinds l).1 (nextL (genKinds l).2 12) (nextV (genKinds l).2 12).toNat).1.length := (List.getElem?_eq_some_iff.1 hg).1
    have hgm := h3 _ (List.mem_of_getElem? hg)
    refine ⟨by omega, ?_, ?_, by omega, by rw [hc]; exact genComps_held (genKinds_good l) q⟩
    · rw [hn]; show (j : Int) < ((wAt _ _ _).1.length : Int); omega
    · rw [hn]; exact hg
end Go.Proofs.Ytfkppbkipbbmaaa

namespace Go.Proofs.Ytfkppbkipbbmaaa
set_option linter.unusedVariables false
theorem fieldsErr_iff : ∀ (fs pre : List Field), fieldsErr pre fs = 0 ↔ (∀ f ∈ fs, fieldErr f = 0) ∧ fs.Pairwise (fun a b => a.name ≠ b.name) ∧ ∀ f ∈ fs, ∀ o ∈ pre, o.name ≠ f.name
  | [], pre => by simp [fieldsErr]
  | f :: fs, pre => by
    rw [fieldsErr]
    by_cases h1 : fieldErr f = 0
    · rw [if_neg (by simp [h1])]
      by_cases h2 : pre.any (fun o => o.name == f.name) = true
      · rw [if_pos h2]
        obtain ⟨o, ho, he⟩ := List.any_eq_true.1 h2
        constructor
        · intro h; cases h
        · rintro ⟨_, _, h3⟩
          exact absurd (by simpa using he) (h3 f (by simp) o ho)
      · rw [if_neg h2, fieldsErr_iff fs (pre ++ [f])]
        have h2' : ∀ o ∈ pre, o.name ≠ f.name := fun o ho he => h2 (List.any_eq_true.2 ⟨o, ho, by simpa using he⟩)
        constructor
        · rintro ⟨a, b, c⟩
          refine ⟨fun x hx => ?_, List.pairwise_cons.2 ⟨fun x hx => ?_, b⟩, fun x hx o ho => ?_⟩
          · rcases List.mem_cons.1 hx with rfl | hx
            · exact h1
            · exact a x hx
          · exact c x hx f (by simp)
          · rcases List.mem_cons.1 hx with rfl | hx
            · exact h2' o ho
            · exact c x hx o (by simp [ho])
        · rintro ⟨a, b, c⟩
          obtain ⟨b1, b2⟩ := List.pairwise_cons.1 b
          refine ⟨fun x hx => a x (by simp [hx]), b2, fun x hx o ho => ?_⟩
          rcases List.mem_append.1 ho with ho | ho
          · exact c x (by simp [hx]) o ho
          · rw [List.mem_singleton.1 ho]; exact b1 x hx
    · rw [if_pos (by simpa using h1)]
      constructor
      · intro h; exact absurd h h1
      · rintro ⟨a, _⟩; exact absurd (a f (by simp)) h1
structure KindOK (k : Kind) : Prop where
  nm : nameOk k.name = true
  ln : k.fields.length ≤ 8
  fe : ∀ f ∈ k.fields, fieldErr f = 0
  nd : k.fields.Pairwise fun a b => a.name ≠ b.name
theorem oneErr_iff (k : Kind) : oneErr k = 0 ↔ KindOK k := by
  unfold oneErr
  by_cases h1 : nameOk k.name = true
  · rw [if_pos h1]
    by_cases h2 : 8 < k.fields.length
    · rw [if_pos h2]
      constructor
      · intro h; cases h
      · intro h; have := h.ln; omega
    · rw [if_neg h2, fieldsErr_iff]
      constructor
      · rintro ⟨a, b, _⟩; exact ⟨h1, by omega, a, b⟩
      · intro h; exact ⟨h.fe, h.nd, fun f hf o ho => by cases ho⟩
  · rw [if_neg h1]
    constructor
    · intro h; cases h
    · intro h; exact absurd h.nm h1
theorem kindsErr_iff : ∀ (fs pre : List Kind), kindsErr pre fs = 0 ↔ (∀ f ∈ fs, oneErr f = 0) ∧ fs.Pairwise (fun a b => a.name ≠ b.name) ∧ ∀ f ∈ fs, ∀ o ∈ pre, o.name ≠ f.name
  | [], pre => by simp [kindsErr]
  | f :: fs, pre => by
    rw [kindsErr]
    by_cases h1 : oneErr f = 0
    · rw [if_neg (by simp [h1])]
      by_cases h2 : pre.any (fun o => o.name == f.name) = true
      · rw [if_pos h2]
        obtain ⟨o, ho, he⟩ := List.any_eq_true.1 h2
        constructor
        · intro h; cases h
        · rintro ⟨_, _, h3⟩
          exact absurd (by simpa using he) (h3 f (by simp) o ho)
      · rw [if_neg h2, kindsErr_iff fs (pre ++ [f])]
        have h2' : ∀ o ∈ pre, o.name ≠ f.name := fun o ho he => h2 (List.any_eq_true.2 ⟨o, ho, by simpa using he⟩)
        constructor
        · rintro ⟨a, b, c⟩
          refine ⟨fun x hx => ?_, List.pairwise_cons.2 ⟨fun x hx => ?_, b⟩, fun x hx o ho => ?_⟩
          · rcases List.mem_cons.1 hx with rfl | hx
            · exact h1
            · exact a x hx
          · exact c x hx f (by simp)
          · rcases List.mem_cons.1 hx with rfl | hx
            · exact h2' o ho
            · exact c x hx o (by simp [ho])
        · rintro ⟨a, b, c⟩
          obtain ⟨b1, b2⟩ := List.pairwise_cons.1 b
          refine ⟨fun x hx => a x (by simp [hx]), b2, fun x hx o ho => ?_⟩
          rcases List.mem_append.1 ho with ho | ho
          · exact c x (by simp [hx]) o ho
          · rw [List.mem_singleton.1 ho]; exact b1 x hx
    · rw [if_pos (by simpa using h1)]
      constructor
      · intro h; exact absurd h h1
      · rintro ⟨a, _⟩; exact absurd (a f (by simp)) h1
structure KsOK (ks : List Kind) : Prop where
  ln : ks.length ≤ 16
  one : ∀ k ∈ ks, oneErr k = 0
  nd : ks.Pairwise fun a b => a.name ≠ b.name
theorem checkErr_iff (ks : List Kind) : checkErr ks = 0 ↔ KsOK ks := by
  unfold checkErr
  by_cases h : 16 < ks.length
  · rw [if_pos h]
    constructor
    · intro h; cases h
    · intro h2; have := h2.ln; omega
  · rw [if_neg h, kindsErr_iff]
    constructor
    · rintro ⟨a, b, _⟩; exact ⟨by omega, a, b⟩
    · intro h; exact ⟨h.one, h.nd, fun f hf o ho => by cases ho⟩
theorem KsOK.b {ks : List Kind} (h : KsOK ks) : KsB ks := ⟨by have := h.ln; omega, fun k hk => by have := ((oneErr_iff k).1 (h.one k hk)).ln; omega⟩
theorem zip_iff : ∀ (fs : List Field) (vs : List Int), vs.length = fs.length → (List.zipWith nearOf fs vs = vs ↔ ∀ (j : Nat) (f : Field) (v : Int), fs[j]? = some f → vs[j]? = some v → nearOf f v = v)
  | [], [], _ => by simp
  | [], _ :: _, h => by simp at h
  | _ :: _, [], h => by simp at h
  | f :: fs, v :: vs, h => by
    have ih := zip_iff fs vs (by simpa using h)
    rw [List.zipWith_cons_cons, List.cons.injEq, ih]
    constructor
    · rintro ⟨a, b⟩ j g u hg hu
      cases j with
      | zero => simp at hg hu; subst hg hu; exact a
      | succ j => exact b j g u (by simpa using hg) (by simpa using hu)
    · intro a
      exact ⟨a 0 f v rfl rfl, fun j g u hg hu => a (j + 1) g u (by simpa using hg) (by simpa using hu)⟩
theorem holds_iff (k : Kind) (vs : List Int) : holdsOf k vs = true ↔ oneErr k = 0 ∧ vs.length = k.fields.length ∧ ∀ (j : Nat) (f : Field) (v : Int), k.fields[j]? = some f → vs[j]? = some v → nearOf f v = v := by
  unfold holdsOf
  constructor
  · intro h
    simp only [Bool.and_eq_true, decide_eq_true_eq] at h
    obtain ⟨h1, h2⟩ := h
    have ho : oneErr k = 0 := by
      unfold fitOf at h1
      split at h1
      · exact h1
      · rename_i h; simpa using h
    have hl : vs.length = k.fields.length := by
      unfold fitOf at h1
      rw [if_neg (by simp [ho])] at h1
      split at h1
      · cases h1
      · rename_i h; simpa using h
    rw [fitOf_ok ho hl] at h2
    exact ⟨ho, hl, (zip_iff _ _ hl).1 h2⟩
  · rintro ⟨ho, hl, h⟩
    rw [fitOf_ok ho hl, (zip_iff _ _ hl).2 h]
    simp
/-- The kinds after a move that is possible, and its place. -/
inductive Step (ks : List Kind) (m : Move) : Nat → Nat → List Kind → Prop
  | add (h : m.act = 0) : Step ks m 0 0 (ks ++ [m.whole])
  | drop {i : Nat} {k : Kind} (h : m.act = 1) (hk : ks[i]? = some k) (hn : k.name = m.kind) : Step ks m i 0 (ks.eraseIdx i)
  | name {i : Nat} {k : Kind} (h : m.act = 2) (hk : ks[i]? = some k) (hn : k.name = m.kind) : Step ks m i 0 (ks.set i ⟨m.name, k.fields⟩)
  | addF {i : Nat} {k : Kind} (h : m.act = 3) (hk : ks[i]? = some k) (hn : k.name = m.kind) : Step ks m i 0 (ks.set i ⟨k.name, k.fields ++ [m.new]⟩)
  | dropF {i j : Nat} {k : Kind} {f : Field} (h : m.act = 4) (hk : ks[i]? = some k) (hn : k.name = m.kind) (hf : k.fields[j]? = some f) (hfn : f.name = m.field) : Step ks m i j (ks.set i ⟨k.name, k.fields.eraseIdx j⟩)
  | nameF {i j : Nat} {k : Kind} {f : Field} (h : m.act = 5) (hk : ks[i]? = some k) (hn : k.name = m.kind) (hf : k.fields[j]? = some f) (hfn : f.name = m.field) : Step ks m i j (ks.set i ⟨k.name, k.fields.set j ⟨m.name, f.bits, f.low⟩⟩)
  | retype {i j : Nat} {k : Kind} {f : Field} (h : m.act = 6) (hk : ks[i]? = some k) (hn : k.name = m.kind) (hf : k.fields[j]? = some f) (hfn : f.name = m.field) : Step ks m i j (ks.set i ⟨k.name, k.fields.set j ⟨f.name, m.new.bits, m.new.low⟩⟩)
theorem stepOf_cases {ks : List Kind} {m : Move} (h : (stepOf ks m).2 = 0) : ∃ i j : Nat, placeOf ks m = ((i : Int), (j : Int), 0) ∧ Step ks m i j (stepOf ks m).1 ∧ KsOK (stepOf ks m).1 := by
  unfold stepOf at h ⊢
  by_cases h1 : (placeOf ks m).2.2 = 0
  · rw [if_neg (by simp [h1])] at h ⊢
    obtain ⟨out, hout⟩ : ∃ out, rawOf ks m (placeOf ks m).1.toNat (placeOf ks m).2.1.toNat = out := ⟨_, rfl⟩
    rw [hout] at h ⊢
    by_cases h2 : checkErr out = 0
    · rw [if_neg (by simp [h2])] at h ⊢
      have hok := (checkErr_iff out).1 h2
      obtain ⟨ha0, ha6, hp⟩ := placeOf_at h1
      rcases hp with ⟨h0, hp⟩ | ⟨h0, i, k, hk, hkn, _, hp⟩
      · rw [hp] at hout
        unfold rawOf at hout
        rw [if_pos h0] at hout
        refine ⟨0, 0, hp, ?_, hok⟩
        subst hout
        exact .add h0
      · rcases hp with ⟨h3, hp⟩ | ⟨h3, j, f, hf, hfn, _, hp⟩
        · rw [hp] at hout
          unfold rawOf at hout
          rw [if_neg h0, Int.toNat_natCast, hk] at hout
          refine ⟨i, 0, hp, ?_, hok⟩
          by_cases a1 : m.act = 1
          · rw [if_pos a1] at hout; subst hout; exact .drop a1 hk hkn
          · rw [if_neg a1] at hout
            dsimp only at hout
            by_cases a2 : m.act = 2
            · rw [if_pos a2] at hout; subst hout; exact .name a2 hk hkn
            · rw [if_neg a2, if_pos (by omega)] at hout; subst hout; exact .addF (by omega) hk hkn
        · rw [hp] at hout
          unfold rawOf at hout
          simp only [Int.toNat_natCast, hk, hf] at hout
          rw [if_neg h0, if_neg (by omega), if_neg (by omega), if_neg (by omega)] at hout
          refine ⟨i, j, hp, ?_, hok⟩
          by_cases a4 : m.act = 4
          · rw [if_pos a4] at hout; subst hout; exact .dropF a4 hk hkn hf hfn
          · rw [if_neg a4] at hout
            by_cases a5 : m.act = 5
            · rw [if_pos a5] at hout; subst hout; exact .nameF a5 hk hkn hf hfn
            · rw [if_neg a5] at hout; subst hout; exact .retype (by omega) hk hkn hf hfn
    · rw [if_pos (by simpa using h2)] at h
      exact absurd h h2
  · rw [if_pos (by simpa using h1)] at h
    exact absurd h h1
theorem nearOf_name {f g : Field} (h1 : fieldErr f = 0) (h2 : fieldErr g = 0) (hb : f.bits = g.bits) (hl : f.low = g.low) (v : Int) : nearOf f v = nearOf g v := by
  unfold nearOf highOf
  rw [if_pos h1, if_pos h2, if_pos h1, if_pos h2, hb, hl]
/-- A valid component. -/
def CompOK (ks : List Kind) (c : Comp) : Prop := -1 < c.kind ∧ c.kind < ks.length ∧ ∃ k, ks[c.kind.toNat]? = some k ∧ holdsOf k c.vals = true
theorem fieldErr_of {ks : List Kind} (h : KsOK ks) {i : Nat} {k : Kind} (hk : ks[i]? = some k) : ∀ f ∈ k.fields, fieldErr f = 0 := ((oneErr_iff k).1 (h.one k (List.mem_of_getElem? hk))).fe
theorem compOne_ok {ks : List Kind} {m : Move} {i j : Nat} {out : List Kind} (hs : Step ks m i j out) (hks : KsOK ks) (hok : KsOK out) {c c' : Comp} (hc : CompOK ks c) (h : compOne out m i j c = some c') : CompOK out c' ∧ (m.act = 1 → c.kind ≠ i ∧ (c.kind < i → c'.kind = c.kind) ∧ (i < c.kind → c'.kind = c.kind - 1)) ∧ (m.act ≠ 1 → c'.kind = c.kind) := by
  obtain ⟨ck, cv⟩ := c
  obtain ⟨h1, h2, k0, hk0, hh⟩ := hc
  dsimp only at h1 h2 hk0 hh
  obtain ⟨n, rfl⟩ : ∃ n : Nat, ck = n := ⟨ck.toNat, by omega⟩
  rw [Int.toNat_natCast] at hk0
  have hnl : n < ks.length := by omega
  unfold compOne at h
  dsimp only at h
  cases hs with
  | add ha =>
    rw [if_neg (by omega), if_neg (by omega)] at h
    have : c' = ⟨n, cv⟩ := by
      split at h
      · rw [if_neg (by omega), if_neg (by omega), if_neg (by omega)] at h
        exact (Option.some.inj h).symm
      · exact (Option.some.inj h).symm
    subst this
    refine ⟨⟨h1, ?_, k0, ?_, hh⟩, fun h => by omega, fun _ => rfl⟩
    · rw [List.length_append]; simp; omega
    · rw [Int.toNat_natCast, List.getElem?_append_left hnl]; exact hk0
  | @drop i k ha hk hn =>
    have hil := (List.getElem?_eq_some_iff.1 hk).1
    have hel := List.length_eraseIdx_of_lt hil
    by_cases hci : (n : Int) = i
    · rw [if_pos ⟨ha, hci⟩] at h; cases h
    · rw [if_neg (by omega)] at h
      by_cases hlt : (i : Int) < n
      · rw [if_pos ⟨ha, hlt⟩] at h
        have : c' = ⟨n - 1, cv⟩ := (Option.some.inj h).symm
        subst this
        refine ⟨⟨by dsimp only; omega, by dsimp only; omega, k0, ?_, hh⟩, fun _ => ⟨hci, fun h => by dsimp only at h; omega, fun _ => rfl⟩, fun h => absurd ha h⟩
        rw [show ((n : Int) - 1).toNat = n - 1 by omega, List.getElem?_eraseIdx, if_neg (by omega), show n - 1 + 1 = n by omega]
        exact hk0
      · rw [if_neg (by omega), if_neg hci] at h
        have : c' = ⟨n, cv⟩ := (Option.some.inj h).symm
        subst this
        refine ⟨⟨h1, by dsimp only; omega, k0, ?_, hh⟩, fun _ => ⟨hci, fun _ => rfl, fun h => by dsimp only at h; omega⟩, fun h => absurd ha h⟩
        rw [Int.toNat_natCast, List.getElem?_eraseIdx, if_pos (by omega)]
        exact hk0
  | @name i k ha hk hn =>
    rw [if_neg (by omega), if_neg (by omega)] at h
    have : c' = ⟨n, cv⟩ := by
      split at h
      · rw [if_neg (by omega), if_neg (by omega), if_neg (by omega)] at h
        exact (Option.some.inj h).symm
      · exact (Option.some.inj h).symm
    subst this
    refine ⟨?_, fun h => by omega, fun _ => rfl⟩
    by_cases e : i = n
    · subst e
      rw [hk] at hk0
      obtain rfl := Option.some.inj hk0
      refine ⟨h1, by rw [List.length_set]; exact h2, _, by rw [Int.toNat_natCast]; exact List.getElem?_set_self hnl, ?_⟩
      rw [holds_iff] at hh ⊢
      exact ⟨hok.one _ (List.mem_of_getElem? (List.getElem?_set_self hnl)), hh.2⟩
    · exact ⟨h1, by rw [List.length_set]; exact h2, k0, by rw [Int.toNat_natCast, List.getElem?_set_ne e]; exact hk0, hh⟩
  | @addF i k ha hk hn =>
    rw [if_neg (by omega), if_neg (by omega)] at h
    by_cases e : i = n
    · subst e
      rw [hk] at hk0
      obtain rfl := Option.some.inj hk0
      rw [if_pos rfl, if_pos ha] at h
      have : c' = ⟨i, cv ++ [nearOf m.new m.value]⟩ := (Option.some.inj h).symm
      subst this
      have hkm := List.mem_of_getElem? (List.getElem?_set_self (a := (⟨k.name, k.fields ++ [m.new]⟩ : Kind)) hnl)
      have hone := hok.one _ hkm
      have hnew : fieldErr m.new = 0 := ((oneErr_iff _).1 hone).fe m.new (by simp)
      refine ⟨⟨h1, by rw [List.length_set]; exact h2, _, by rw [Int.toNat_natCast]; exact List.getElem?_set_self hnl, ?_⟩, fun h => by omega, fun _ => rfl⟩
      rw [holds_iff] at hh ⊢
      obtain ⟨q1, q2, q3⟩ := hh
      refine ⟨hone, by simp [q2], fun j f v hf hv => ?_⟩
      dsimp only at hf hv
      by_cases hj : j < k.fields.length
      · rw [List.getElem?_append_left hj] at hf
        rw [List.getElem?_append_left (by omega)] at hv
        exact q3 j f v hf hv
      · have hj2 : j = k.fields.length := by
          have := (List.getElem?_eq_some_iff.1 hf).1
          simp at this; omega
        subst hj2
        rw [List.getElem?_append_right (Nat.le_refl _)] at hf
        rw [List.getElem?_append_right (by omega), q2] at hv
        simp at hf hv
        subst hf hv
        exact near_near hnew _
    · rw [if_neg (by omega)] at h
      have : c' = ⟨n, cv⟩ := (Option.some.inj h).symm
      subst this
      exact ⟨⟨h1, by rw [List.length_set]; exact h2, k0, by rw [Int.toNat_natCast, List.getElem?_set_ne e]; exact hk0, hh⟩, fun h => by omega, fun _ => rfl⟩
  | @dropF i j k f ha hk hn hf hfn =>
    rw [if_neg (by omega), if_neg (by omega)] at h
    by_cases e : i = n
    · subst e
      rw [hk] at hk0
      obtain rfl := Option.some.inj hk0
      rw [if_pos rfl, if_neg (by omega), if_pos ha, Int.toNat_natCast] at h
      have : c' = ⟨i, cv.eraseIdx j⟩ := (Option.some.inj h).symm
      subst this
      have hone := hok.one _ (List.mem_of_getElem? (List.getElem?_set_self (a := (⟨k.name, k.fields.eraseIdx j⟩ : Kind)) hnl))
      refine ⟨⟨h1, by rw [List.length_set]; exact h2, _, by rw [Int.toNat_natCast]; exact List.getElem?_set_self hnl, ?_⟩, fun h => by omega, fun _ => rfl⟩
      rw [holds_iff] at hh ⊢
      obtain ⟨q1, q2, q3⟩ := hh
      have hjl := (List.getElem?_eq_some_iff.1 hf).1
      refine ⟨hone, by dsimp only; rw [List.length_eraseIdx_of_lt hjl, List.length_eraseIdx_of_lt (by omega), q2], fun q g v hg hv => ?_⟩
      dsimp only at hg hv
      rw [List.getElem?_eraseIdx] at hg hv
      split at hg
      · rename_i hq; rw [if_pos hq] at hv; exact q3 q g v hg hv
      · rename_i hq; rw [if_neg hq] at hv; exact q3 (q + 1) g v hg hv
    · rw [if_neg (by omega)] at h
      have : c' = ⟨n, cv⟩ := (Option.some.inj h).symm
      subst this
      exact ⟨⟨h1, by rw [List.length_set]; exact h2, k0, by rw [Int.toNat_natCast, List.getElem?_set_ne e]; exact hk0, hh⟩, fun h => by omega, fun _ => rfl⟩
  | @nameF i j k f ha hk hn hf hfn =>
    rw [if_neg (by omega), if_neg (by omega)] at h
    have : c' = ⟨n, cv⟩ := by
      split at h
      · rw [if_neg (by omega), if_neg (by omega), if_neg (by omega)] at h
        exact (Option.some.inj h).symm
      · exact (Option.some.inj h).symm
    subst this
    refine ⟨?_, fun h => by omega, fun _ => rfl⟩
    by_cases e : i = n
    · subst e
      rw [hk] at hk0
      obtain rfl := Option.some.inj hk0
      have hkm := List.mem_of_getElem? (List.getElem?_set_self (a := (⟨k.name, k.fields.set j ⟨m.name, f.bits, f.low⟩⟩ : Kind)) hnl)
      have hone := hok.one _ hkm
      have hjl := (List.getElem?_eq_some_iff.1 hf).1
      refine ⟨h1, by rw [List.length_set]; exact h2, _, by rw [Int.toNat_natCast]; exact List.getElem?_set_self hnl, ?_⟩
      rw [holds_iff] at hh ⊢
      obtain ⟨q1, q2, q3⟩ := hh
      refine ⟨hone, by dsimp only; rw [List.length_set]; exact q2, fun q g v hg hv => ?_⟩
      dsimp only at hg hv
      by_cases hq : j = q
      · subst hq
        rw [List.getElem?_set_self hjl] at hg
        obtain rfl := Option.some.inj hg
        rw [← nearOf_name (f := f) (fieldErr_of hks hk f (List.mem_of_getElem? hf)) (((oneErr_iff _).1 hone).fe _ (List.mem_of_getElem? (List.getElem?_set_self hjl))) rfl rfl]
        exact q3 j f v hf hv
      · rw [List.getElem?_set_ne hq] at hg
        exact q3 q g v hg hv
    · exact ⟨h1, by rw [List.length_set]; exact h2, k0, by rw [Int.toNat_natCast, List.getElem?_set_ne e]; exact hk0, hh⟩
  | @retype i j k f ha hk hn hf hfn =>
    rw [if_neg (by omega), if_neg (by omega)] at h
    by_cases e : i = n
    · subst e
      rw [hk] at hk0
      obtain rfl := Option.some.inj hk0
      have hjl := (List.getElem?_eq_some_iff.1 hf).1
      have hkm := List.mem_of_getElem? (List.getElem?_set_self (a := (⟨k.name, k.fields.set j ⟨f.name, m.new.bits, m.new.low⟩⟩ : Kind)) hnl)
      have hone := hok.one _ hkm
      have hfe := ((oneErr_iff _).1 hone).fe _ (List.mem_of_getElem? (List.getElem?_set_self (a := (⟨f.name, m.new.bits, m.new.low⟩ : Field)) hjl))
      rw [holds_iff] at hh
      obtain ⟨q1, q2, q3⟩ := hh
      have hva : cv[j]? = some cv[j] := List.getElem?_eq_getElem (by omega)
      rw [if_pos rfl, if_neg (by omega), if_neg (by omega), if_pos ha] at h
      simp only [Int.toNat_natCast, List.getElem?_set_self hnl, Option.bind_some, List.getElem?_set_self hjl, hva] at h
      have := (Option.some.inj h).symm
      subst this
      refine ⟨⟨h1, by rw [List.length_set]; exact h2, _, by rw [Int.toNat_natCast]; exact List.getElem?_set_self hnl, ?_⟩, fun h => by omega, fun _ => rfl⟩
      rw [holds_iff]
      refine ⟨hone, by dsimp only; rw [List.length_set, List.length_set]; exact q2, fun q g v hg hv => ?_⟩
      dsimp only at hg hv
      by_cases hq : j = q
      · subst hq
        rw [List.getElem?_set_self hjl] at hg
        rw [List.getElem?_set_self (by omega)] at hv
        obtain rfl := Option.some.inj hg
        obtain rfl := Option.some.inj hv
        exact near_near hfe _
      · rw [List.getElem?_set_ne hq] at hg hv
        exact q3 q g v hg hv
    · rw [if_neg (by omega)] at h
      have : c' = ⟨n, cv⟩ := (Option.some.inj h).symm
      subst this
      exact ⟨⟨h1, by rw [List.length_set]; exact h2, k0, by rw [Int.toNat_natCast, List.getElem?_set_ne e]; exact hk0, hh⟩, fun h => by omega, fun _ => rfl⟩
theorem held_iff {ks : List Kind} {l : List Comp} : heldOf ks l = true ↔ l.Pairwise (fun a b => a.kind < b.kind) ∧ ∀ c ∈ l, CompOK ks c := by
  unfold heldOf
  rw [heldFrom_iff (by omega)]
  exact Iff.rfl
theorem compsAt_ok {ks : List Kind} {m : Move} {i j : Nat} {out : List Kind} (hs : Step ks m i j out) (hks : KsOK ks) (hok : KsOK out) {l : List Comp} (h : heldOf ks l = true) : heldOf out (compsAt out m i j l) = true := by
  rw [held_iff] at h ⊢
  obtain ⟨h1, h2⟩ := h
  unfold compsAt
  refine ⟨?_, fun c hc => ?_⟩
  · rw [List.pairwise_filterMap]
    refine List.Pairwise.imp_of_mem (fun {a b} ha hb hab => ?_) h1
    intro a' ha' b' hb'
    obtain ⟨_, p2, p3⟩ := compOne_ok hs hks hok (h2 a ha) ha'
    obtain ⟨_, q2, q3⟩ := compOne_ok hs hks hok (h2 b hb) hb'
    by_cases e : m.act = 1
    · obtain ⟨p4, p5, p6⟩ := p2 e
      obtain ⟨q4, q5, q6⟩ := q2 e
      rcases Int.lt_trichotomy a.kind i with x | x | x
      · rw [p5 x]
        rcases Int.lt_trichotomy b.kind i with y | y | y
        · rw [q5 y]; exact hab
        · exact absurd y q4
        · rw [q6 y]; omega
      · exact absurd x p4
      · rw [p6 x, q6 (by omega)]; omega
    · rw [p3 e, q3 e]; exact hab
  · obtain ⟨c0, hc0, hcc⟩ := List.mem_filterMap.1 hc
    exact (compOne_ok hs hks hok (h2 c0 hc0) hcc).1
theorem worldStep_ok {w : Wd} {m : Move} (hw : WdOK w) (h : (stepOf w.kinds m).2 = 0) : WdOK (worldStep w m) := by
  obtain ⟨i, j, hp, hs, hok⟩ := stepOf_cases h
  have hks := (checkErr_iff _).1 hw.ks
  refine ⟨(checkErr_iff _).2 hok, hw.gl, ?_, hw.gs, ?_, fun it hit => ?_⟩
  · show (w.items.map _).length ≤ _
    rw [List.length_map]; exact hw.il
  · show (w.items.map _).Pairwise _
    rw [List.pairwise_map]
    exact hw.so
  · obtain ⟨it0, h0, rfl⟩ := List.mem_map.1 hit
    obtain ⟨a, b, c, d, e⟩ := hw.it it0 h0
    refine ⟨a, b, c, d, ?_⟩
    show heldOf (stepOf w.kinds m).1 (compsAt (stepOf w.kinds m).1 m (placeOf w.kinds m).1 (placeOf w.kinds m).2.1 it0.comps) = true
    rw [hp]
    exact compsAt_ok hs hks hok e
/-- Valid worlds are small. -/
theorem WdOK.l {w : Wd} (hw : WdOK w) : WdL w := by
  have hks := (checkErr_iff _).1 hw.ks
  refine ⟨hks.b, by have := hw.gl; omega, ⟨by have := hw.gl; have := hw.il; omega, fun it hit => ?_⟩⟩
  have hh := (held_iff.1 (hw.it it hit).2.2.2.2)
  refine ⟨?_, fun c hc => ?_⟩
  · have hlen : ∀ (l : List Comp) (a : Int) (n : Nat), l.Pairwise (fun a b => a.kind < b.kind) → (∀ c ∈ l, a < c.kind ∧ c.kind < n) → a < n → (l.length : Int) ≤ n - a := by
      intro l
      induction l with
      | nil => intro a n _ _ h; simp; omega
      | cons c l ih =>
        intro a n hp hr h
        obtain ⟨h1, h2⟩ := List.pairwise_cons.1 hp
        have hc := hr c (by simp)
        have := ih c.kind n h2 (fun d hd => ⟨h1 d hd, (hr d (by simp [hd])).2⟩) hc.2
        simp only [List.length_cons]
        omega
    have := hlen it.comps (-1) w.kinds.length hh.1 (fun c hc => ⟨(hh.2 c hc).1, (hh.2 c hc).2.1⟩) (by omega)
    have := hks.ln
    omega
  · obtain ⟨_, _, k, hk, hc2⟩ := hh.2 c hc
    obtain ⟨ho, hl, _⟩ := (holds_iff k c.vals).1 hc2
    have := ((oneErr_iff k).1 ho).ln
    omega
/-- What comps asks holds in a valid world. -/
theorem compFit_of {ks : List Kind} {m : Move} {i j : Nat} {out : List Kind} (hs : Step ks m i j out) {c : Comp} (hc : CompOK ks c) : CompFit out m i j c := by
  intro hck
  obtain ⟨h1, h2, k0, hk0, hh⟩ := hc
  rw [hck, Int.toNat_natCast] at hk0
  obtain ⟨_, hl, _⟩ := (holds_iff k0 c.vals).1 hh
  cases hs with
  | add ha => exact ⟨fun h => by omega, fun h => by omega⟩
  | drop ha hk hn => exact ⟨fun h => by omega, fun h => by omega⟩
  | name ha hk hn => exact ⟨fun h => by omega, fun h => by omega⟩
  | addF ha hk hn => exact ⟨fun h => by omega, fun h => by omega⟩
  | dropF ha hk hn hf hfn =>
    rw [hk] at hk0
    obtain rfl := Option.some.inj hk0
    have := (List.getElem?_eq_some_iff.1 hf).1
    exact ⟨fun _ => ⟨j, rfl, by omega⟩, fun h => by omega⟩
  | nameF ha hk hn hf hfn => exact ⟨fun h => by omega, fun h => by omega⟩
  | @retype i j k f ha hk hn hf hfn =>
    rw [hk] at hk0
    obtain rfl := Option.some.inj hk0
    have hjl := (List.getElem?_eq_some_iff.1 hf).1
    have hil := (List.getElem?_eq_some_iff.1 hk).1
    exact ⟨fun h => by omega, fun _ => ⟨i, j, _, _, rfl, rfl, List.getElem?_set_self hil, List.getElem?_set_self hjl, by omega⟩⟩
/-- Kinds, step by step. -/
theorem kindsFold_cons {ks : List Kind} {m : Move} {ms : List Move} (h : (kindsFold ks (m :: ms)).2 = 0) : (stepOf ks m).2 = 0 ∧ kindsFold ks (m :: ms) = kindsFold (stepOf ks m).1 ms := by
  rw [kindsFold] at h ⊢
  split at h
  · exact absurd h ‹_›
  · rename_i h1
    rw [if_neg h1]
    exact ⟨by simpa using h1, rfl⟩
theorem worldFold_kinds : ∀ (ms : List Move) (w : Wd), (kindsFold w.kinds ms).2 = 0 → (ms.foldl worldStep w).kinds = (kindsFold w.kinds ms).1
  | [], w, _ => rfl
  | m :: ms, w, h => by
    obtain ⟨h1, h2⟩ := kindsFold_cons h
    rw [List.foldl_cons, h2]
    rw [h2] at h
    exact worldFold_kinds ms (worldStep w m) h
theorem worldFold_ok : ∀ (ms : List Move) (w : Wd), WdOK w → (kindsFold w.kinds ms).2 = 0 → WdOK (ms.foldl worldStep w)
  | [], w, hw, _ => hw
  | m :: ms, w, hw, h => by
    obtain ⟨h1, h2⟩ := kindsFold_cons h
    rw [List.foldl_cons]
    rw [h2] at h
    exact worldFold_ok ms (worldStep w m) (worldStep_ok hw h1) h
end Go.Proofs.Ytfkppbkipbbmaaa
