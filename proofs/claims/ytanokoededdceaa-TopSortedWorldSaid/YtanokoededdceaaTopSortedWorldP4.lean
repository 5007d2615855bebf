/-
  Part 4 of the texts under the law TopSortedWorld: the layer of abstract values, walks and plain laws. Conditions: those that each theorem names.
-/
import Derived.WalkKit
import Derived.Lib.Hide
import Derived.Deep.OwnRows
import Derived.Deep.Draws
import Derived.Test.YtanokoededdceaaChecked
import Derived.ProofKit
import Derived.OpenShut
import Derived.ShutString
import Derived.ChangeOld
import Derived.Below
import Derived.SizedLaws
import Derived.Deep.Slices
import Derived.Deep.Fields
import Derived.ChangeSame
import Derived.Test.YtanokoededdceaaProg
import Derived.Sort.AssemblyPlain
import Derived.Test.YtanokoededdceaaTopSortedWorldP3
namespace Go.Proofs.Ytanokoededdceaa
set_option linter.unusedSimpArgs false
set_option linter.unusedVariables false

structure Field where
  name : List UInt8
  bits : Int
  low : Int
structure Kind where
  name : List UInt8
  fields : List Field
structure Ent where
  n : Int
  gen : Int
structure Comp where
  kind : Int
  vals : List Int
structure Item where
  ent : Ent
  comps : List Comp
structure Wd where
  kinds : List Kind
  gens : List Int
  items : List Item
structure Ref where
  kind : Int
  field : Int
structure Arg where
  has : Bool
  n : Int
  ref : Ref
structure Op where
  act : Int
  to : Ref
  a : Arg
  b : Arg
instance : DecidableEq Field := fun a b => decidable_of_iff (a.name = b.name ∧ a.bits = b.bits ∧ a.low = b.low) (by cases a; cases b; simp)
instance : DecidableEq Kind := fun a b => decidable_of_iff (a.name = b.name ∧ a.fields = b.fields) (by cases a; cases b; simp)
instance : DecidableEq Ent := fun a b => decidable_of_iff (a.n = b.n ∧ a.gen = b.gen) (by cases a; cases b; simp)
instance : Inhabited Ent := ⟨⟨default, default⟩⟩
instance : DecidableEq Comp := fun a b => decidable_of_iff (a.kind = b.kind ∧ a.vals = b.vals) (by cases a; cases b; simp)
instance : Inhabited Comp := ⟨⟨default, default⟩⟩
instance : DecidableEq Item := fun a b => decidable_of_iff (a.ent = b.ent ∧ a.comps = b.comps) (by cases a; cases b; simp)
instance : Inhabited Item := ⟨⟨default, default⟩⟩
instance : DecidableEq Wd := fun a b => decidable_of_iff (a.kinds = b.kinds ∧ a.gens = b.gens ∧ a.items = b.items) (by cases a; cases b; simp)
/-- A number of Go's type int. -/
def I64 (x : Int) : Prop := -9223372036854775808 ≤ x ∧ x ≤ 9223372036854775807
end Go.Proofs.Ytanokoededdceaa

namespace Go.Proofs.Ytanokoededdceaa
set_option linter.unusedSimpArgs false
set_option linter.unusedVariables false
open Go.RowKit

abbrev Reg := Nat → Prop
/-- The blocks that the world holds. -/
def Lt (w : World) : Reg := fun b => b < w.heap.size
section
variable {w w' w'' : World} {S T : Reg}
theorem bel {n m : Nat} {a b c : World} (h : Below n a b) (k : Below m b c) (hm : n ≤ m) : Below n a c := h.trans (k.mono hm)
/-- The slice value v holds n elements of sz cells each: the cells xs, in a block of S (none is asked of an empty one). -/
def Row (w : World) (S : Reg) (sz : Nat) (v : Value) (n : Nat) (xs : List Value) : Prop :=
  xs.length = n * sz ∧ ∃ A cap, v = .slice A n cap ∧ n ≤ cap ∧ (0 < n → ∃ b off, A = some ⟨b, off, none⟩ ∧ S b ∧ ∀ j u, xs[j]? = some u → w.cell? ⟨b, off + j, none⟩ = some u)

variable {sz n : Nat} {v : Value} {xs : List Value}
theorem Row.nil (w : World) (S : Reg) (sz : Nat) : Row w S sz (.slice none 0 0) 0 [] := ⟨by simp, none, 0, rfl, Nat.le_refl _, fun h => absurd h (by omega)⟩
end

/-- The cells xs are those of the data l, sz cells each. -/
def Cells {α : Type} (C : List Value → α → Prop) (sz : Nat) : List Value → List α → Prop
  | xs, [] => xs = []
  | xs, x :: l => ∃ c ys, xs = c ++ ys ∧ c.length = sz ∧ C c x ∧ Cells C sz ys l

section
variable {α : Type} {C C' : List Value → α → Prop} {sz : Nat} {xs ys : List Value} {l m : List α}
theorem Cells.nil : Cells C sz [] [] := rfl
theorem Cells.length (h : Cells C sz xs l) : xs.length = l.length * sz := by
  induction l generalizing xs with
  | nil => have : xs = [] := h; simp [this]
  | cons x l ih =>
    obtain ⟨c, ys, rfl, h1, _, h3⟩ := h
    simp [ih h3, h1, Nat.add_mul, Nat.add_comm]
end

/-- The slice value v reads as the list l, each element by C, all in blocks of S. -/
def Sl {α : Type} (w : World) (S : Reg) (sz : Nat) (C : World → Reg → List Value → α → Prop) (v : Value) (l : List α) : Prop :=
  ∃ xs, Row w S sz v l.length xs ∧ Cells (C w S) sz xs l

section
variable {α : Type} {w w' : World} {S T : Reg} {sz : Nat} {C : World → Reg → List Value → α → Prop} {v : Value} {l : List α}
theorem Sl.nil (w : World) (S : Reg) (sz : Nat) (C : World → Reg → List Value → α → Prop) : Sl w S sz C (.slice none 0 0) [] := ⟨[], Row.nil w S sz, .nil⟩
end

/-! ### The program's data in memory -/
abbrev strV (l : List UInt8) : Value := .string ⟨l.toArray⟩
def intC (_ : World) (_ : Reg) (c : List Value) (x : Int) : Prop := c = [.int .i64 x]
def fieldC (_ : World) (_ : Reg) (c : List Value) (f : Field) : Prop := c = [strV f.name, .int .i64 f.bits, .int .i64 f.low]
abbrev Ints (w : World) (S : Reg) (v : Value) (l : List Int) : Prop := Sl w S 1 intC v l
abbrev Fields (w : World) (S : Reg) (v : Value) (l : List Field) : Prop := Sl w S 3 fieldC v l
def kindC (w : World) (S : Reg) (c : List Value) (k : Kind) : Prop := ∃ vf, c = [strV k.name, vf] ∧ Fields w S vf k.fields
abbrev Kinds (w : World) (S : Reg) (v : Value) (l : List Kind) : Prop := Sl w S 2 kindC v l
section
variable {w w' : World} {S T : Reg} {v : Value}
/-! one element, its cells written out, at the addresses that the walk computes -/
variable {A : Option Addr} {n cap i : Nat}
end

section
variable {α : Type} {w w' : World} {base : Nat} {e : TypeId} {S T : Reg} {sz : Nat} {C : World → Reg → List Value → α → Prop} {v : Value} {l : List α}
end

section
variable {w w' : World} {b : Nat} {e : TypeId} {l : List Int}
end

section
variable {w w' : World} {g : Nat} {t : TypeId} {cs : Array Value}
end
end Go.Proofs.Ytanokoededdceaa

namespace Go.Proofs.Ytanokoededdceaa
set_option linter.unusedSimpArgs false
set_option linter.unusedVariables false
open Go.ChangeShapes Go.WideShapes Go.ChangeAt Go.RowKit Go.Deep

theorem i64_of_wf {x : Int} (h : (Lit.int .i64 x).wf = true) : I64 x := by
  have := h
  simp [Lit.wf, IntKind.min, IntKind.max, IntKind.signed, IntKind.bits] at this
  unfold I64
  omega

theorem flat_at {α : Type} {sz : Nat} {cs : α → List Value} {f : Nat → Option Value} (hcs : ∀ x, (cs x).length = sz) : ∀ (l : List α) (off : Nat), (∀ i (hi : i < l.length) j u, (cs l[i])[j]? = some u → f (off + (i * sz + j)) = some u) →
    ∀ j u, (l.flatMap cs)[j]? = some u → f (off + j) = some u := by
  intro l
  induction l with
  | nil => intro off _ j u h; simp at h
  | cons x l ih =>
    intro off h j u hj
    rw [List.flatMap_cons] at hj
    rcases Nat.lt_or_ge j sz with hlt | hge
    · rw [List.getElem?_append_left (by rw [hcs]; exact hlt)] at hj
      have := h 0 (by simp) j u hj
      simpa using this
    · rw [List.getElem?_append_right (by rw [hcs]; exact hge), hcs] at hj
      have := ih (off + sz) (fun i hi j u hu => by
        have := h (i + 1) (by simp; omega) j u hu
        rwa [Nat.add_mul, Nat.one_mul, show off + (i * sz + sz + j) = off + sz + (i * sz + j) by omega] at this) (j - sz) u hj
      rwa [show off + sz + (j - sz) = off + j by omega] at this
theorem cells_flat {α : Type} {sz : Nat} {cs : α → List Value} {C : List Value → α → Prop} (hcs : ∀ x, (cs x).length = sz) (hC : ∀ x, C (cs x) x) (l : List α) : Cells C sz (l.flatMap cs) l := by
  induction l with
  | nil => rfl
  | cons x l ih => exact ⟨cs x, l.flatMap cs, by rw [List.flatMap_cons], hcs x, hC x, ih⟩
theorem sl_of_cells {α : Type} {w : World} {sz : Nat} {C : World → Reg → List Value → α → Prop} {a : Addr} {n cap : Nat} {l : List α} {cs : α → List Value} (hn : n ≤ cap) (hl : l.length = n) (hsz : 0 < sz) (hcs : ∀ x, (cs x).length = sz) (hC : ∀ x, C w (Lt w) (cs x) x)
    (hcell : ∀ i (hi : i < l.length) j u, (cs l[i])[j]? = some u → w.cell? (a.add (i * sz + j)) = some u) : Sl w (Lt w) sz C (.slice (some a) n cap) l := by
  subst hl
  refine ⟨l.flatMap cs, ⟨?_, some a, cap, rfl, hn, fun h0 => ?_⟩, cells_flat hcs hC l⟩
  · have := (cells_flat (C := fun _ _ => True) hcs (fun _ => trivial) l).length
    exact this
  · obtain ⟨b, off, spot⟩ := a
    have h1 : ∃ u, (cs l[0])[0]? = some u := ⟨_, List.getElem?_eq_getElem (by rw [hcs]; exact hsz)⟩
    obtain ⟨u, hu⟩ := h1
    have h2 := hcell 0 h0 0 u hu
    have hspot : spot = none := by simpa [Addr.add] using World.cell?_spot h2
    subst hspot
    refine ⟨b, off, rfl, ?_, ?_⟩
    · rw [Go.WideShapes.add_plain] at h2
      unfold World.cell? at h2
      simp only at h2
      show b < w.heap.size
      rcases Nat.lt_or_ge b w.heap.size with h | h
      · exact h
      · rw [Array.getElem?_eq_none h] at h2
        cases h2
    · refine flat_at (f := fun k => w.cell? ⟨b, k, none⟩) hcs l off fun i hi j u hu => ?_
      have := hcell i hi j u hu
      rwa [Go.WideShapes.add_plain] at this

section
variable {H : Type} {enc : TypeId × Value → H} {w : World} {a : Option Addr} {len cap : Nat} {d : DataW H} {p : List MemPlace}
theorem ints_arg (h : DataW.Trod enc Try.prog w 0 (fun _ => true) true 22 (.slice a len cap) d p) :
    ∃ z : List Int, Ints w (Lt w) (.slice a len cap) z ∧ (z = [] ∨ ∃ elems spare, d = .slice elems spare ∧ z.length ≤ elems.length + spare.length) := by
  obtain ⟨fuel, hf⟩ := h
  rcases open_slice Try.underlying22 hf with ⟨hcs, _⟩ | ⟨x, l, c, m, n, D, Pl, hcs, hb, hl, hm, hmm, hx, hi⟩
  · simp [Value.cells] at hcs
    obtain ⟨rfl, rfl, rfl⟩ := hcs
    exact ⟨[], Sl.nil _ _ _ _, .inl rfl⟩
  · simp [Value.cells] at hcs
    obtain ⟨rfl, rfl, rfl⟩ := hcs
    have hlm : len ≤ m := by rw [hmm]; split <;> omega
    have hex : ∀ i, ∃ e : Int, i < len → ∀ j u, ([Value.int .i64 e])[j]? = some u → w.cell? (x.add (i * 1 + j)) = some u := by
      intro i
      by_cases hil : i < len
      · obtain ⟨cs', hc, ht⟩ := hi i (by omega)
        rw [show Try.prog.cellsOf 3 = 1 from by kernel_rfl] at hc
        obtain ⟨_, hcl, hat⟩ := World.cells?_some hc
        obtain ⟨k, rfl, _⟩ := DataW.trod_int Try.underlying3 ht
        refine ⟨k, fun _ j u hu => ?_⟩
        have hj : j = 0 := by
          have := (List.getElem?_eq_some_iff.1 hu).1
          simp at this
          omega
        subst hj
        have := hat 0 (by omega)
        rw [Go.Deep.add_add] at this
        rw [this, hu]
      · exact ⟨0, fun h => absurd h hil⟩
    obtain ⟨f, hf'⟩ := Classical.axiomOfChoice hex
    refine ⟨(List.range len).map f, sl_of_cells (cs := fun e => [Value.int .i64 e]) hl (by simp) (by omega) (fun _ => rfl) (fun _ => rfl) (fun i hi' j u hu => ?_), .inr ⟨_, _, (Prod.mk.inj hx).1, by simp⟩⟩
    simp only [List.length_map, List.length_range] at hi'
    exact hf' i hi' j u (by simpa using hu)
end
end Go.Proofs.Ytanokoededdceaa

namespace Go.Proofs.Ytanokoededdceaa
set_option linter.unusedVariables false

instance tAg3 : TAg Try.prog 3 false := ⟨by kernel_rfl⟩
instance tSize3 : TSize Try.prog 3 1 := ⟨by kernel_rfl⟩
instance tZe3 : TZe Try.prog 3 [.int .i64 0] := ⟨by kernel_rfl⟩
instance tBy3 : TBy Try.prog 3 8 := ⟨by kernel_rfl⟩
instance tAg4 : TAg Try.prog 4 false := ⟨by kernel_rfl⟩
instance tSize4 : TSize Try.prog 4 1 := ⟨by kernel_rfl⟩
instance tZe4 : TZe Try.prog 4 [.bool false] := ⟨by kernel_rfl⟩
instance tBy4 : TBy Try.prog 4 1 := ⟨by kernel_rfl⟩
instance tAg9 : TAg Try.prog 9 false := ⟨by kernel_rfl⟩
instance tSize9 : TSize Try.prog 9 1 := ⟨by kernel_rfl⟩
instance tZe9 : TZe Try.prog 9 [.string ByteArray.empty] := ⟨by kernel_rfl⟩
instance tSg9 : TSg Try.prog 9  := ⟨by kernel_rfl⟩
instance tAg22 : TAg Try.prog 22 false := ⟨by kernel_rfl⟩
instance tSize22 : TSize Try.prog 22 1 := ⟨by kernel_rfl⟩
instance tZe22 : TZe Try.prog 22 [.slice none 0 0] := ⟨by kernel_rfl⟩
instance tEl22 : TEl Try.prog 22 3 := ⟨by kernel_rfl⟩
instance tRo22 : TRo Try.prog 22 3 1 8 := ⟨by kernel_rfl⟩
instance tAg24 : TAg Try.prog 24 false := ⟨by kernel_rfl⟩
instance tSize24 : TSize Try.prog 24 1 := ⟨by kernel_rfl⟩
instance tEl24 : TEl Try.prog 24 67 := ⟨by kernel_rfl⟩
instance tRo24 : TRo Try.prog 24 67 2 40 := ⟨by kernel_rfl⟩
instance tAg25 : TAg Try.prog 25 false := ⟨by kernel_rfl⟩
instance tSize25 : TSize Try.prog 25 1 := ⟨by kernel_rfl⟩
instance tEl25 : TEl Try.prog 25 34 := ⟨by kernel_rfl⟩
instance tRo25 : TRo Try.prog 25 34 3 40 := ⟨by kernel_rfl⟩
instance tAg27 : TAg Try.prog 27 true := ⟨by kernel_rfl⟩
instance tSize27 : TSize Try.prog 27 3 := ⟨by kernel_rfl⟩
instance tZe27 : TZe Try.prog 27 [.slice none 0 0, .slice none 0 0, .slice none 0 0] := ⟨by kernel_rfl⟩
instance tFl27_0 : TFl Try.prog 27 0 0 24 := ⟨by kernel_rfl⟩
instance tFl27_1 : TFl Try.prog 27 1 1 22 := ⟨by kernel_rfl⟩
instance tFl27_2 : TFl Try.prog 27 2 2 25 := ⟨by kernel_rfl⟩
instance tSt27 : TSt Try.prog 27 [.slice none 0 0, .slice none 0 0, .slice none 0 0] [(0, 1), (1, 1), (2, 1)] := ⟨by kernel_rfl⟩
instance tAg31 : TAg Try.prog 31 true := ⟨by kernel_rfl⟩
instance tSize31 : TSize Try.prog 31 2 := ⟨by kernel_rfl⟩
instance tZe31 : TZe Try.prog 31 [.int .i64 0, .int .i64 0] := ⟨by kernel_rfl⟩
instance tFl31_0 : TFl Try.prog 31 0 0 3 := ⟨by kernel_rfl⟩
instance tFl31_1 : TFl Try.prog 31 1 1 3 := ⟨by kernel_rfl⟩
instance tSt31 : TSt Try.prog 31 [.int .i64 0, .int .i64 0] [(0, 1), (1, 1)] := ⟨by kernel_rfl⟩
instance tAg32 : TAg Try.prog 32 false := ⟨by kernel_rfl⟩
instance tSize32 : TSize Try.prog 32 1 := ⟨by kernel_rfl⟩
instance tEl32 : TEl Try.prog 32 71 := ⟨by kernel_rfl⟩
instance tRo32 : TRo Try.prog 32 71 2 32 := ⟨by kernel_rfl⟩
instance tAg34 : TAg Try.prog 34 true := ⟨by kernel_rfl⟩
instance tSize34 : TSize Try.prog 34 3 := ⟨by kernel_rfl⟩
instance tZe34 : TZe Try.prog 34 [.int .i64 0, .int .i64 0, .slice none 0 0] := ⟨by kernel_rfl⟩
instance tBy34 : TBy Try.prog 34 40 := ⟨by kernel_rfl⟩
instance tFl34_0 : TFl Try.prog 34 0 0 31 := ⟨by kernel_rfl⟩
instance tFl34_1 : TFl Try.prog 34 1 2 32 := ⟨by kernel_rfl⟩
instance tSt34 : TSt Try.prog 34 [.int .i64 0, .int .i64 0, .slice none 0 0] [(0, 2), (2, 1)] := ⟨by kernel_rfl⟩
instance tAg38 : TAg Try.prog 38 false := ⟨by kernel_rfl⟩
instance tSize38 : TSize Try.prog 38 1 := ⟨by kernel_rfl⟩
instance tEl38 : TEl Try.prog 38 87 := ⟨by kernel_rfl⟩
instance tRo38 : TRo Try.prog 38 87 4 32 := ⟨by kernel_rfl⟩
instance tAg40 : TAg Try.prog 40 true := ⟨by kernel_rfl⟩
instance tZe40 : TZe Try.prog 40 [.slice none 0 0, .int .i64 0] := ⟨by kernel_rfl⟩
instance tFl40_0 : TFl Try.prog 40 0 0 38 := ⟨by kernel_rfl⟩
instance tFl40_1 : TFl Try.prog 40 1 1 3 := ⟨by kernel_rfl⟩
instance tEl44 : TEl Try.prog 44 4 := ⟨by kernel_rfl⟩
instance tAg49 : TAg Try.prog 49 false := ⟨by kernel_rfl⟩
instance tSize49 : TSize Try.prog 49 1 := ⟨by kernel_rfl⟩
instance tZe49 : TZe Try.prog 49 [.int .u64 0] := ⟨by kernel_rfl⟩
instance tBy49 : TBy Try.prog 49 8 := ⟨by kernel_rfl⟩
instance tAg64 : TAg Try.prog 64 true := ⟨by kernel_rfl⟩
instance tSize64 : TSize Try.prog 64 3 := ⟨by kernel_rfl⟩
instance tZe64 : TZe Try.prog 64 [.string ByteArray.empty, .int .i64 0, .int .i64 0] := ⟨by kernel_rfl⟩
instance tFl64_0 : TFl Try.prog 64 0 0 9 := ⟨by kernel_rfl⟩
instance tFl64_1 : TFl Try.prog 64 1 1 3 := ⟨by kernel_rfl⟩
instance tFl64_2 : TFl Try.prog 64 2 2 3 := ⟨by kernel_rfl⟩
instance tSt64 : TSt Try.prog 64 [.string ByteArray.empty, .int .i64 0, .int .i64 0] [(0, 1), (1, 1), (2, 1)] := ⟨by kernel_rfl⟩
instance tAg65 : TAg Try.prog 65 false := ⟨by kernel_rfl⟩
instance tSize65 : TSize Try.prog 65 1 := ⟨by kernel_rfl⟩
instance tEl65 : TEl Try.prog 65 64 := ⟨by kernel_rfl⟩
instance tRo65 : TRo Try.prog 65 64 3 32 := ⟨by kernel_rfl⟩
instance tAg67 : TAg Try.prog 67 true := ⟨by kernel_rfl⟩
instance tSize67 : TSize Try.prog 67 2 := ⟨by kernel_rfl⟩
instance tZe67 : TZe Try.prog 67 [.string ByteArray.empty, .slice none 0 0] := ⟨by kernel_rfl⟩
instance tBy67 : TBy Try.prog 67 40 := ⟨by kernel_rfl⟩
instance tFl67_0 : TFl Try.prog 67 0 0 9 := ⟨by kernel_rfl⟩
instance tFl67_1 : TFl Try.prog 67 1 1 65 := ⟨by kernel_rfl⟩
instance tSt67 : TSt Try.prog 67 [.string ByteArray.empty, .slice none 0 0] [(0, 1), (1, 1)] := ⟨by kernel_rfl⟩
instance tAg71 : TAg Try.prog 71 true := ⟨by kernel_rfl⟩
instance tSize71 : TSize Try.prog 71 2 := ⟨by kernel_rfl⟩
instance tZe71 : TZe Try.prog 71 [.int .i64 0, .slice none 0 0] := ⟨by kernel_rfl⟩
instance tBy71 : TBy Try.prog 71 32 := ⟨by kernel_rfl⟩
instance tFl71_0 : TFl Try.prog 71 0 0 3 := ⟨by kernel_rfl⟩
instance tFl71_1 : TFl Try.prog 71 1 1 22 := ⟨by kernel_rfl⟩
instance tSt71 : TSt Try.prog 71 [.int .i64 0, .slice none 0 0] [(0, 1), (1, 1)] := ⟨by kernel_rfl⟩
instance tFl77_0 : TFl Try.prog 77 0 0 22 := ⟨by kernel_rfl⟩
instance tSt77 : TSt Try.prog 77 [.slice none 0 0] [(0, 1)] := ⟨by kernel_rfl⟩
instance tAg87 : TAg Try.prog 87 true := ⟨by kernel_rfl⟩
instance tSize87 : TSize Try.prog 87 4 := ⟨by kernel_rfl⟩
instance tZe87 : TZe Try.prog 87 [.int .i64 0, .int .i64 0, .int .i64 0, .int .i64 0] := ⟨by kernel_rfl⟩
instance tFl87_0 : TFl Try.prog 87 0 0 31 := ⟨by kernel_rfl⟩
instance tFl87_1 : TFl Try.prog 87 1 2 3 := ⟨by kernel_rfl⟩
instance tFl87_2 : TFl Try.prog 87 2 3 3 := ⟨by kernel_rfl⟩
instance tSt87 : TSt Try.prog 87 [.int .i64 0, .int .i64 0, .int .i64 0, .int .i64 0] [(0, 2), (2, 1), (3, 1)] := ⟨by kernel_rfl⟩
instance tAg89 : TAg Try.prog 89 false := ⟨by kernel_rfl⟩
instance tSize89 : TSize Try.prog 89 1 := ⟨by kernel_rfl⟩
instance tEl89 : TEl Try.prog 89 120 := ⟨by kernel_rfl⟩
instance tRo89 : TRo Try.prog 89 120 3 24 := ⟨by kernel_rfl⟩
instance tAg91 : TAg Try.prog 91 true := ⟨by kernel_rfl⟩
instance tZe91 : TZe Try.prog 91 [.slice none 0 0, .int .i64 0] := ⟨by kernel_rfl⟩
instance tFl91_0 : TFl Try.prog 91 0 0 89 := ⟨by kernel_rfl⟩
instance tFl91_1 : TFl Try.prog 91 1 1 3 := ⟨by kernel_rfl⟩
instance tEl109 : TEl Try.prog 109 49 := ⟨by kernel_rfl⟩
instance tEl111 : TEl Try.prog 111 5 := ⟨by kernel_rfl⟩
instance tEl112 : TEl Try.prog 112 9 := ⟨by kernel_rfl⟩
instance tAg120 : TAg Try.prog 120 true := ⟨by kernel_rfl⟩
instance tSize120 : TSize Try.prog 120 3 := ⟨by kernel_rfl⟩
instance tZe120 : TZe Try.prog 120 [.int .i64 0, .int .i64 0, .int .i64 0] := ⟨by kernel_rfl⟩
instance tFl120_0 : TFl Try.prog 120 0 0 3 := ⟨by kernel_rfl⟩
instance tFl120_1 : TFl Try.prog 120 1 1 3 := ⟨by kernel_rfl⟩
instance tFl120_2 : TFl Try.prog 120 2 2 3 := ⟨by kernel_rfl⟩
instance tSt120 : TSt Try.prog 120 [.int .i64 0, .int .i64 0, .int .i64 0] [(0, 1), (1, 1), (2, 1)] := ⟨by kernel_rfl⟩
end Go.Proofs.Ytanokoededdceaa

namespace Go.Proofs.Ytanokoededdceaa
set_option linter.unusedSimpArgs false
set_option linter.unusedVariables false
abbrev iA (n : Int) : AV := .prim (.int .i64 n)
abbrev bA (b : Bool) : AV := .prim (.bool b)
abbrev sA (l : List UInt8) : AV := .prim (strA l)
def fieldA (f : Field) : AV := .agg [sA f.name, iA f.bits, iA f.low]
abbrev fieldsA (o : Bool) (l : List Field) : AV := .lst o 64 3 (l.map fieldA)
def kindA (o : Bool) (k : Kind) : AV := .agg [sA k.name, fieldsA o k.fields]
abbrev kindsA (o o' : Bool) (l : List Kind) : AV := .lst o 67 2 (l.map (kindA o'))
abbrev intsA (o : Bool) (l : List Int) : AV := .lst o 3 1 (l.map iA)
instance {f : Field} : Frz (fieldA f) (fieldA f) := ⟨rfl⟩
instance {o : Bool} {k : Kind} : Frz (kindA o k) (kindA false k) := ⟨by unfold kindA; exact Frz.h⟩
def compA (o : Bool) (c : Comp) : AV := .agg [iA c.kind, intsA o c.vals]
abbrev compsA (o o' : Bool) (l : List Comp) : AV := .lst o 71 2 (l.map (compA o'))
def itemA (o : Bool) (x : Item) : AV := .agg [iA x.ent.n, iA x.ent.gen, compsA o o x.comps]
abbrev itemsA (o o' : Bool) (l : List Item) : AV := .lst o 34 3 (l.map (itemA o'))
def wdA (o : Bool) (w : Wd) : AV := .agg [kindsA o o w.kinds, intsA o w.gens, itemsA o o w.items]
def entA (e : Ent) : AV := .agg [iA e.n, iA e.gen]
instance {e : Ent} : Frz (entA e) (entA e) := ⟨rfl⟩
instance {o : Bool} {k : Comp} : Frz (compA o k) (compA false k) := ⟨by unfold compA; exact Frz.h⟩
instance {o : Bool} {k : Item} : Frz (itemA o k) (itemA false k) := ⟨by unfold itemA; exact Frz.h⟩
instance {o : Bool} {k : Wd} : Frz (wdA o k) (wdA false k) := ⟨by unfold wdA; exact Frz.h⟩
theorem frzs_same {α : Type} (f : α → AV) (h : ∀ a, (f a).frz = f a) (l : List α) : AV.frzs (l.map f) = l.map f := by
  rw [frzs_map, List.map_map]
  exact List.map_congr_left fun a _ => h a
theorem intsA_frz (o : Bool) (l : List Int) : (intsA o l).frz = intsA false l := by
  show AV.lst false _ _ (AV.frzs (l.map iA)) = _
  rw [frzs_same _ fun _ => rfl]
end Go.Proofs.Ytanokoededdceaa

namespace Go.Proofs.Ytanokoededdceaa
set_option linter.unusedVariables false
theorem entEql (a b c d : Int) (w : World) : (binOp .eql 31 (.agg #[.int .i64 a, .int .i64 b]) (.agg #[.int .i64 c, .int .i64 d])).run Try.prog w = .ok (.bool (decide (a = c) && decide (b = d))) w :=
  eql_two (by kernel_rfl) (by kernel_rfl) (by kernel_rfl) a b c d w
def sameE (a b : Ent) : Bool := decide (a.n = b.n) && decide (a.gen = b.gen)
theorem sameE_dec (a b : Ent) : sameE a b = decide (a = b) := by
  obtain ⟨n, g⟩ := a
  obtain ⟨n', g'⟩ := b
  rw [Bool.eq_iff_iff]
  simp [sameE]
end Go.Proofs.Ytanokoededdceaa

namespace Go.Proofs.Ytanokoededdceaa
set_option linter.unusedSimpArgs false
set_option linter.unusedVariables false

def nextV (l : List Int) (n : Int) : Int := if n < 1 then 0 else match l with | [] => 0 | x :: _ => x % n
def nextL (l : List Int) (n : Int) : List Int := if n < 1 then l else l.tail
theorem nextV_range (l : List Int) {n : Int} (h : 1 ≤ n) : 0 ≤ nextV l n ∧ nextV l n < n := by
  unfold nextV
  rw [if_neg (by omega)]
  split
  · omega
  · rename_i x _
    exact ⟨Int.emod_nonneg x (by omega), Int.emod_lt_of_pos x (by omega)⟩
/-- The names of kinds: spot, life, team, goal. -/
def kindName (k : Nat) : List UInt8 := match k with
  | 0 => [115, 112, 111, 116]
  | 1 => [108, 105, 102, 101]
  | 2 => [116, 101, 97, 109]
  | _ => [103, 111, 97, 108]
/-- The names of fields: x, y, z. -/
def fieldName (k : Nat) : List UInt8 := match k with
  | 0 => [120]
  | 1 => [121]
  | _ => [122]
def genField (i : Nat) (l : List Int) : Field × List Int :=
  if nextV (nextL (nextL l 9) 40) 8 = 7 then (⟨fieldName i, 32, -2147483648⟩, nextL (nextL (nextL l 9) 40) 8)
  else (⟨fieldName i, 1 + nextV l 9, nextV (nextL l 9) 40 - 30⟩, nextL (nextL (nextL l 9) 40) 8)
def genFields : Nat → Nat → List Int → List Field × List Int
  | _, 0, l => ([], l)
  | i, c + 1, l => ((genField i l).1 :: (genFields (i + 1) c (genField i l).2).1, (genFields (i + 1) c (genField i l).2).2)
def genKind (k : Nat) (l : List Int) : Kind × List Int :=
  (⟨kindName k, (genFields 0 (1 + nextV l 3).toNat (nextL l 3)).1⟩, (genFields 0 (1 + nextV l 3).toNat (nextL l 3)).2)
def genKindsFrom : Nat → Nat → List Int → List Kind × List Int
  | _, 0, l => ([], l)
  | k, c + 1, l => ((genKind k l).1 :: (genKindsFrom (k + 1) c (genKind k l).2).1, (genKindsFrom (k + 1) c (genKind k l).2).2)
def genKinds (l : List Int) : List Kind × List Int := genKindsFrom 0 (1 + nextV l 4).toNat (nextL l 4)
end Go.Proofs.Ytanokoededdceaa

namespace Go.Proofs.Ytanokoededdceaa
set_option linter.unusedVariables false
theorem below_ps (x n : Int) (hn : 1 ≤ n) (h2 : n ≤ 4611686018427387904) : PS Try.prog 7 [iA x, iA n] (iA (x % n)) := by
  refine Spec.of (nt := 14) (res := [.tmp 4]) Try.func7 rfl (by kernel_rfl) rfl rfl rfl fun Sf => ?_
  have h3 : x.tmod n < n := Int.tmod_lt_of_pos _ (by omega)
  have h4 : -n < x.tmod n := by
    have := Int.lt_tmod_of_pos x (b := n) (by omega)
    exact this
  have h5 : x.tmod n = x % n ∨ x.tmod n + n = x % n ∧ x.tmod n < 0 := by
    rw [Int.tmod_eq_emod]
    split
    · exact .inl (by simp)
    · have := Int.emod_nonneg x (b := n) (by omega)
      have := Int.emod_lt_of_pos x (b := n) (by omega)
      refine .inr ?_
      have : ((n.natAbs : Nat) : Int) = n := by omega
      omega
  have h6 := Int.emod_nonneg x (b := n) (by omega)
  (repeat (first | (refine AOps.gN ?_; first | refine AOps.p (W.rem rfl rfl (by omega)) rfl ?_) | refine WK ?_ | refine All.i fun X => ?_ | refine AllY.i fun Y => ?_))
  refine AWP.cond rfl (fun hb => ?_) (fun hb => ?_)
  · have hb : x.tmod n < 0 := by simpa using hb
    (repeat (first | refine WK ?_ | refine All.i fun X => ?_ | refine AllY.i fun Y => ?_))
    (refine AWP.ret ?_; (repeat (first | refine inB_r ?_ | refine andThen_r ?_)); refine retQ_r ?_)
    exact Ends.plain rfl rfl (by exact Sub.f) ⟨by rw [show x.tmod n + n = x % n from by omega], rfl⟩
  · have hb : ¬ x.tmod n < 0 := by simpa using hb
    (repeat (first | refine WK ?_ | refine All.i fun X => ?_ | refine AllY.i fun Y => ?_))
    (refine AWP.ret ?_; (repeat (first | refine inB_r ?_ | refine andThen_r ?_)); refine retQ_r ?_)
    exact Ends.plain rfl rfl (by exact Sub.f) ⟨by rw [show x.tmod n = x % n from by omega], rfl⟩
abbrev streamO (l : List Int) : AO := .row 77 1 [.agg [intsA false l]]
theorem next_po (X : Nat) (l : List Int) (n : Int) (h2 : n ≤ 4611686018427387904) : PO Try.prog 25 [.ptr X 0 0, iA n] X (streamO l) (iA (nextV l n)) (streamO (nextL l n)) := by
  refine Spec.of (nt := 33) (res := [.tmp 4]) Try.func25 rfl (by kernel_rfl) rfl rfl rfl fun Sf => ?_
  (repeat (first | refine WK ?_ | refine All.i fun X => ?_ | refine AllY.i fun Y => ?_))
  refine AWP.cond rfl (fun hb => ?_) (fun hb => ?_)
  · (repeat (first | refine WK ?_ | refine All.i fun X => ?_ | refine AllY.i fun Y => ?_))
    (refine AWP.ret ?_; (repeat (first | refine inB_r ?_ | refine andThen_r ?_)); refine retQ_r ?_)
    have hb : l.length = 0 ∨ n < 1 := by simp only [Bool.or_eq_true, decide_eq_true_eq, List.length_map] at hb; omega
    have e1 : nextV l n = 0 := by
      unfold nextV
      split
      · rfl
      · rcases hb with hb | hb
        · rw [List.length_eq_zero_iff.1 hb]
        · omega
    have e2 : nextL l n = l := by
      unfold nextL
      split
      · rfl
      · rcases hb with hb | hb
        · rw [List.length_eq_zero_iff.1 hb]; rfl
        · omega
    rw [e1, e2]
    exact Ends.plainS rfl rfl (by exact Sub.f) ⟨rfl, rfl⟩
  · have hb : l.length ≠ 0 ∧ 1 ≤ n := by simp only [Bool.or_eq_false_iff, decide_eq_false_iff_not, List.length_map] at hb; omega
    obtain ⟨hb, hn⟩ := hb
    cases l with
    | nil => exact absurd rfl hb
    | cons x l =>
    (repeat (first | (refine AOps.gN ?_; first | refine AOps.p (W.idxL rfl rfl (a := 0) rfl rfl) rfl ?_ | refine AOps.p (W.loL rfl rfl (a := 1) rfl (by simp)) rfl ?_ | refine AOps.p (W.call2 rfl rfl (below_ps _ _ hn h2) rfl) rfl ?_) | refine WK ?_ | refine All.i fun X => ?_ | refine AllY.i fun Y => ?_))
    (refine AWP.ret ?_; (repeat (first | refine inB_r ?_ | refine andThen_r ?_)); refine retQ_r ?_)
    rw [show nextV (x :: l) n = x % n from by unfold nextV; rw [if_neg (by omega)], show nextL (x :: l) n = l from by unfold nextL; rw [if_neg (by omega)]; rfl]
    exact Ends.plainS (S' := [(X, streamO l)]) rfl rfl (by exact Sub.f) ⟨rfl, rfl⟩
end Go.Proofs.Ytanokoededdceaa

namespace Go.Proofs.Ytanokoededdceaa
set_option linter.unusedVariables false
/-- The first i fields, kinds out of a stream, and the stream behind them. -/
def fAt : Nat → List Int → List Field × List Int
  | 0, l => ([], l)
  | i + 1, l => ((fAt i l).1 ++ [(genField i (fAt i l).2).1], (genField i (fAt i l).2).2)
def kAt : Nat → List Int → List Kind × List Int
  | 0, l => ([], l)
  | i + 1, l => ((kAt i l).1 ++ [(genKind i (kAt i l).2).1], (genKind i (kAt i l).2).2)
theorem fAt_len (i : Nat) (l : List Int) : (fAt i l).1.length = i := by
  induction i with
  | zero => rfl
  | succ i ih => simp [fAt, ih]
theorem kAt_len (i : Nat) (l : List Int) : (kAt i l).1.length = i := by
  induction i with
  | zero => rfl
  | succ i ih => simp [kAt, ih]
theorem fAt_gen (c i : Nat) (l : List Int) : ((fAt i l).1 ++ (genFields i c (fAt i l).2).1, (genFields i c (fAt i l).2).2) = fAt (i + c) l := by
  induction c generalizing i with
  | zero => simp [genFields]
  | succ c ih =>
    rw [show i + (c + 1) = (i + 1) + c from by omega, ← ih (i + 1)]
    simp [genFields, fAt]
theorem kAt_gen (c i : Nat) (l : List Int) : ((kAt i l).1 ++ (genKindsFrom i c (kAt i l).2).1, (genKindsFrom i c (kAt i l).2).2) = kAt (i + c) l := by
  induction c generalizing i with
  | zero => simp [genKindsFrom]
  | succ c ih =>
    rw [show i + (c + 1) = (i + 1) + c from by omega, ← ih (i + 1)]
    simp [genKindsFrom, kAt]
theorem genFields_at (c : Nat) (l : List Int) : genFields 0 c l = fAt c l := by
  have := fAt_gen c 0 l
  simpa [fAt] using this
theorem genKinds_at (l : List Int) : genKinds l = kAt (1 + nextV l 4).toNat (nextL l 4) := by
  have := kAt_gen (1 + nextV l 4).toNat 0 (nextL l 4)
  simpa [kAt, genKinds] using this
theorem knames_at {i : Nat} (h : i < 4) : [sA [115, 112, 111, 116], sA [108, 105, 102, 101], sA [116, 101, 97, 109], sA [103, 111, 97, 108]][i]? = some (sA (kindName i)) := by
  have : i = 0 ∨ i = 1 ∨ i = 2 ∨ i = 3 := by omega
  rcases this with rfl | rfl | rfl | rfl <;> rfl
theorem fnames_at {i : Nat} (h : i < 3) : [sA [120], sA [121], sA [122]][i]? = some (sA (fieldName i)) := by
  have : i = 0 ∨ i = 1 ∨ i = 2 := by omega
  rcases this with rfl | rfl | rfl <;> rfl
theorem kinds_po (G : Nat) (l : List Int) : PO Try.prog 24 [.ptr G 0 0] G (streamO l) (kindsA true false (genKinds l).1) (streamO (genKinds l).2) := by
  refine Spec.of (nt := 55) (res := [.tmp 2]) Try.func24 rfl (by kernel_rfl) rfl rfl rfl fun Sf => ?_
  have h0 := nextV_range l (n := 4) (by decide)
  (repeat (first | (refine AOps.gN ?_; first | (refine AOps.g_callf ?_; first | refine AOps.o2 (h := (next_po G _ _ (by decide))) (k := ?_))) | refine WK ?_ | refine All.i fun X => ?_ | refine AllY.i fun Y => ?_))

  refine AWP.adopt (d := 3) 67 2 rfl fun K => ?_
  obtain ⟨c, hc⟩ : ∃ c : Nat, 1 + nextV l 4 = c := ⟨(1 + nextV l 4).toNat, by omega⟩
  obtain ⟨l0, hl0⟩ : ∃ l0, nextL l 4 = l0 := ⟨_, rfl⟩
  have hg : genKinds l = kAt c l0 := by rw [genKinds_at, hl0, show (1 + nextV l 4).toNat = c from by omega]
  rw [hg, hl0, hc]
  have hc4 : 1 ≤ c ∧ c ≤ 4 := by omega
  clear hg hl0 hc h0
  refine AWP.lp4 (fun (i K : Nat) (M : List AV) (q : List Int) => ⟨[(0, .ptr G 0 0), (3, .sl K 0 i), (10, iA c), (11, iA i)], (K, .row 67 2 M) :: (G, streamO q) :: Sf⟩) (fun i _ M q => i ≤ c ∧ M = (kAt i l0).1.map (kindA false) ∧ M.length = i ∧ q = (kAt i l0).2) (fun i _ _ _ => c - i) 0 K [] l0 ⟨Nat.zero_le _, rfl, rfl, rfl⟩ ?_
  rintro i K M q ⟨hi, hM, hMl, hq⟩
  (repeat (first | refine WK ?_ | refine All.i fun X => ?_ | refine AllY.i fun Y => ?_))
  refine AWP.cond rfl (fun hb => ?_) (fun hb => ?_)
  · have h : i < c := by rw [decide_eq_true_eq] at hb; omega
    have h4 : i < 4 := by omega
    have h3 := nextV_range q (n := 3) (by decide)
    have hkn := knames_at h4
    (repeat (first | (refine AOps.gN ?_; first | (refine AOps.g_callf ?_; first | refine AOps.o2 (h := (next_po G _ _ (by decide))) (k := ?_))) | refine WK ?_ | refine All.i fun Y => ?_ | refine AllY.i fun Y => ?_))
    refine AWP.adoptIn (Y := Y) 64 3 .here (fun F => .cons (.agg (.cons .same (.cons (.base .nil) .nil))) .nil) fun F => ?_
    obtain ⟨l1, hl1⟩ : ∃ l1, nextL q 3 = l1 := ⟨_, rfl⟩
    obtain ⟨c1, hc1⟩ : ∃ c1 : Nat, 1 + nextV q 3 = c1 := ⟨(1 + nextV q 3).toNat, by omega⟩
    have hgk : kAt (i + 1) l0 = ((kAt i l0).1 ++ [⟨kindName i, (fAt c1 l1).1⟩], (fAt c1 l1).2) := by
      rw [kAt, ← hq, genKind, genFields_at, show (1 + nextV q 3).toNat = c1 from by omega, hl1]
    rw [hl1, hc1]
    have hc13 : c1 ≤ 3 := by omega
    refine AWP.lp4 (fun (j F : Nat) (L : List AV) (r : List Int) => ⟨[(0, .ptr G 0 0), (3, .sl K 0 i), (5, .ptr Y 0 0), (10, iA c), (11, iA i), (21, iA c1), (22, iA j)], (F, .row 64 3 L) :: (Y, .row 67 2 [.agg [sA (kindName i), .sl F 0 j]]) :: (K, .row 67 2 M) :: (G, streamO r) :: Sf⟩) (fun j _ L r => j ≤ c1 ∧ L = (fAt j l1).1.map fieldA ∧ L.length = j ∧ r = (fAt j l1).2) (fun j _ _ _ => c1 - j) 0 F [] l1 ⟨Nat.zero_le _, rfl, rfl, rfl⟩ ?_
    rintro j F L r ⟨hj, hL, hLl, hr⟩
    (repeat (first | refine WK ?_ | refine All.i fun X => ?_ | refine AllY.i fun Y => ?_))
    refine AWP.cond rfl (fun hd => ?_) (fun hd => ?_)
    · have hj' : j < c1 := by rw [decide_eq_true_eq] at hd; omega
      have h9 := nextV_range r (n := 9) (by decide)
      have h40 := nextV_range (nextL r 9) (n := 40) (by decide)
      have hfn := fnames_at (i := j) (by omega)
      (repeat (first | refine WK ?_ | refine All.i fun X => ?_ | refine AllY.i fun Y => ?_))
      refine AWP.rs fun X7 => ?_
      (repeat refine WF ?_); refine AWP.region_run (by kernel_rfl) (by kernel_rfl) ?_; (repeat (first | (refine RGo.gN ?_; first | (refine RGo.g_callf ?_; first | refine RGo.o2 (h := (next_po G _ _ (by decide))) (k := ?_))) | (refine RGo.gQ ?_; first | (refine RGo.g_callf ?_; first | refine RGo.o2 (h := (next_po G _ _ (by decide))) (k := ?_))) | refine RK ?_ | refine RGo.nil (by kernel_rfl) ?_))
      (repeat (first | (refine AOps.gN ?_; first | (refine AOps.g_callf ?_; first | refine AOps.o2 (h := (next_po G _ _ (by decide))) (k := ?_))) | refine WK ?_ | refine All.i fun X => ?_ | refine AllY.i fun Y => ?_))
      refine AWP.cond rfl (fun he => ?_) (fun he => ?_)
      · have he : nextV (nextL (nextL r 9) 40) 8 = 7 := by simpa using he
        have hg : genField j r = (⟨fieldName j, 32, -2147483648⟩, nextL (nextL (nextL r 9) 40) 8) := by rw [genField, if_pos he]
        (repeat (first | (refine AOps.gN ?_; first | (refine AOps.g_lit ?_; refine AOps.goL (fieldA ⟨fieldName j, 32, -2147483648⟩) ?_)) | refine WK ?_ | refine All.i fun X => ?_ | refine AllY.i fun Y => ?_))
        refine lp_next4 (j + 1) Y _ _ ⟨hj', ?_, ?_, ?_⟩
        · rw [fAt, ← hr, hg, hL, List.map_append]; rfl
        · rw [List.length_append, hLl]; rfl
        · rw [fAt, ← hr, hg]
      · have he : nextV (nextL (nextL r 9) 40) 8 ≠ 7 := by simpa using he
        have hg : genField j r = (⟨fieldName j, 1 + nextV r 9, nextV (nextL r 9) 40 - 30⟩, nextL (nextL (nextL r 9) 40) 8) := by rw [genField, if_neg he]
        (repeat (first | (refine AOps.gN ?_; first | (refine AOps.g_lit ?_; refine AOps.goL (fieldA ⟨fieldName j, 1 + nextV r 9, nextV (nextL r 9) 40 - 30⟩) ?_)) | refine WK ?_ | refine All.i fun X => ?_ | refine AllY.i fun Y => ?_))
        refine lp_next4 (j + 1) Y _ _ ⟨hj', ?_, ?_, ?_⟩
        · rw [fAt, ← hr, hg, hL, List.map_append]; rfl
        · rw [List.length_append, hLl]; rfl
        · rw [fAt, ← hr, hg]
    · have hj' : j = c1 := by rw [decide_eq_false_iff_not] at hd; omega
      subst hj'
      (repeat first | refine AOps.nil ?_ | refine WF ?_)
      refine AWP.iceIn (X := F) (Y := Y) .here (.next .here) rfl (.cons (.agg (.cons .same (.cons (.base (.sl (by omega))) .nil))) .nil) ?_
      have hF : AV.frzs ((L.drop 0).take j) = (fAt j l1).1.map fieldA := by
        rw [List.drop_zero, List.take_of_length_le (by omega), hL]
        exact Frzs.h
      rw [hF]
      (repeat (first | (refine AOps.gN ?_; first | (refine AOps.g_lit ?_; refine AOps.goL (kindA false ⟨kindName i, (fAt j l1).1⟩) ?_)) | refine WK ?_ | refine All.i fun X => ?_ | refine AllY.i fun Y => ?_))
      refine lp_next4 (i + 1) Y _ _ ⟨h, ?_, ?_, ?_⟩
      · rw [hgk, hM, List.map_append]; rfl
      · rw [List.length_append, hMl]; rfl
      · rw [hgk, hr]
  · have h : i = c := by rw [decide_eq_false_iff_not] at hb; omega
    subst h
    (repeat (first | refine WK ?_ | refine All.i fun X => ?_ | refine AllY.i fun Y => ?_))
    (refine AWP.ret ?_; (repeat (first | refine inB_r ?_ | refine andThen_r ?_)); refine retQ_r ?_)
    subst hM hq
    refine ⟨[.sl K 0 i], [.lst true 67 2 ((kAt i l0).1.map (kindA false))], _, [(G, streamO (kAt i l0).2)], .cons (.tmp rfl) rfl .nil, .cons (.cell (.sl (p := 0) .here (by rw [List.length_map, kAt_len]))) .nil, by exact Sub.f, rfl, rfl⟩
end Go.Proofs.Ytanokoededdceaa

namespace Go.Proofs.Ytanokoededdceaa
set_option linter.unusedSimpArgs false
set_option linter.unusedVariables false

def lowc (c : UInt8) : Bool := decide (97 ≤ c) && decide (c ≤ 122)
def digc (c : UInt8) : Bool := decide (48 ≤ c) && decide (c ≤ 57)
def chOk (l : List UInt8) (j : Nat) : Bool := lowc (l.getD j 0) || (decide (0 < j) && digc (l.getD j 0))
def nameOk (l : List UInt8) : Bool := decide (0 < l.length) && decide (l.length ≤ 16) && (List.range l.length).all (chOk l)
def fieldErr (f : Field) : Int := if nameOk f.name && decide (1 ≤ f.bits) && decide (f.bits ≤ 32) && decide (-4294967296 ≤ f.low) && decide (f.low ≤ 4294967296) then 0 else 3
def fieldsErr : List Field → List Field → Int
  | _, [] => 0
  | pre, f :: fs => if fieldErr f ≠ 0 then fieldErr f else if pre.any (fun o => o.name == f.name) then 5 else fieldsErr (pre ++ [f]) fs
def oneErr (k : Kind) : Int := if nameOk k.name then (if 8 < k.fields.length then 2 else fieldsErr [] k.fields) else 3

def findKind (l : List Kind) (name : List UInt8) : Int :=
  match l.findIdx? (fun k => k.name == name) with
  | some i => i
  | none => -1
def kindsErr : List Kind → List Kind → Int
  | _, [] => 0
  | pre, k :: ks => if oneErr k ≠ 0 then oneErr k else if pre.any (fun o => o.name == k.name) then 5 else kindsErr (pre ++ [k]) ks
def checkErr (l : List Kind) : Int := if 16 < l.length then 2 else kindsErr [] l
def highOf (f : Field) : Int := if fieldErr f = 0 then f.low + (2 ^ f.bits.toNat - 1) else 0
def nearOf (f : Field) (v : Int) : Int := if fieldErr f = 0 then max f.low (min v (highOf f)) else 0
def fitOf (k : Kind) (vals : List Int) : List Int × Int :=
  if oneErr k ≠ 0 then ([], oneErr k) else if vals.length ≠ k.fields.length then ([], 1) else (List.zipWith nearOf k.fields vals, 0)
def holdsOf (k : Kind) (vals : List Int) : Bool := decide ((fitOf k vals).2 = 0) && decide ((fitOf k vals).1 = vals)

theorem findKind_none {l : List Kind} {name : List UInt8} (h : ∀ j (hj : j < l.length), l[j].name ≠ name) : findKind l name = -1 := by
  have : l.findIdx? (fun k => k.name == name) = none := by
    rw [List.findIdx?_eq_none_iff]
    intro x hx
    obtain ⟨j, hj, rfl⟩ := List.getElem_of_mem hx
    simpa using h j hj
  simp [findKind, this]
theorem findKind_some {l : List Kind} {name : List UInt8} {i : Nat} (hi : i < l.length) (e : l[i].name = name) (h : ∀ j (hj : j < i), (l[j]'(by omega)).name ≠ name) : findKind l name = i := by
  have : l.findIdx? (fun k => k.name == name) = some i := by
    rw [List.findIdx?_eq_some_iff_getElem]
    refine ⟨hi, by simpa using e, fun j hj => ?_⟩
    simpa using h j hj
  simp [findKind, this]
theorem kindsErr_bad {pre : List Kind} {k : Kind} {ks : List Kind} (h : oneErr k ≠ 0) : kindsErr pre (k :: ks) = oneErr k := by
  simp [kindsErr, h]
theorem kindsErr_twice {pre : List Kind} {k : Kind} {ks : List Kind} (h : oneErr k = 0) (hf : 0 ≤ findKind pre k.name) : kindsErr pre (k :: ks) = 5 := by
  have : pre.any (fun o => o.name == k.name) = true := by
    rcases hc : pre.any (fun o => o.name == k.name) with _ | _
    · exfalso
      rw [List.any_eq_false] at hc
      rw [findKind_none (fun j hj => by simpa using hc _ (List.getElem_mem hj))] at hf
      omega
    · rfl
  simp [kindsErr, h, this]
theorem kindsErr_next {pre : List Kind} {k : Kind} {ks : List Kind} (h : oneErr k = 0) (hf : findKind pre k.name < 0) : kindsErr pre (k :: ks) = kindsErr (pre ++ [k]) ks := by
  have : pre.any (fun o => o.name == k.name) = false := by
    rcases hc : pre.any (fun o => o.name == k.name) with _ | _
    · rfl
    · exfalso
      rw [List.any_eq_true] at hc
      obtain ⟨x, hx, e⟩ := hc
      unfold findKind at hf
      split at hf
      · omega
      · rename_i hn
        rw [List.findIdx?_eq_none_iff] at hn
        exact absurd e (by simpa using hn x hx)
  simp [kindsErr, h, this]
theorem kindsErr_at {l : List Kind} {i : Nat} (hi : i < l.length) : kindsErr (l.take i) (l.drop i) = kindsErr (l.take i) (l[i] :: l.drop (i + 1)) := by
  rw [List.drop_eq_getElem_cons hi]
theorem kindsErr_end {l : List Kind} {i : Nat} (hi : l.length ≤ i) : kindsErr (l.take i) (l.drop i) = 0 := by
  rw [List.drop_of_length_le hi]; rfl
theorem fieldErr_ok (f : Field) (h : nameOk f.name = true) (hb : 1 ≤ f.bits ∧ f.bits ≤ 32 ∧ -4294967296 ≤ f.low ∧ f.low ≤ 4294967296) : fieldErr f = 0 := by
  simp [fieldErr, h, hb]
theorem fieldErr_no (f : Field) (h : nameOk f.name = true → ¬ (1 ≤ f.bits ∧ f.bits ≤ 32 ∧ -4294967296 ≤ f.low ∧ f.low ≤ 4294967296)) : fieldErr f = 3 := by
  unfold fieldErr
  rw [if_neg]
  simp only [Bool.and_eq_true, decide_eq_true_eq]
  intro hc
  exact h hc.1.1.1.1 ⟨hc.1.1.1.2, hc.1.1.2, hc.1.2, hc.2⟩
theorem fieldErr_eq_zero (f : Field) : fieldErr f = 0 ↔ nameOk f.name = true ∧ 1 ≤ f.bits ∧ f.bits ≤ 32 ∧ -4294967296 ≤ f.low ∧ f.low ≤ 4294967296 := by
  constructor
  · intro h
    unfold fieldErr at h
    split at h
    · rename_i hc
      simpa [and_assoc] using hc
    · simp at h
  · rintro ⟨h, hb⟩
    exact fieldErr_ok f h hb
theorem fieldsErr_bad {pre : List Field} {f : Field} {fs : List Field} (h : fieldErr f ≠ 0) : fieldsErr pre (f :: fs) = fieldErr f := by
  simp [fieldsErr, h]
theorem fieldsErr_twice {pre : List Field} {f : Field} {fs : List Field} (h : fieldErr f = 0) {j : Nat} (hj : j < pre.length) (e : pre[j].name = f.name) : fieldsErr pre (f :: fs) = 5 := by
  have : pre.any (fun o => o.name == f.name) = true := by
    rw [List.any_eq_true]
    exact ⟨pre[j], List.getElem_mem hj, by simp [e]⟩
  simp [fieldsErr, h, this]
theorem fieldsErr_next {pre : List Field} {f : Field} {fs : List Field} (h : fieldErr f = 0) (e : ∀ j (hj : j < pre.length), pre[j].name ≠ f.name) : fieldsErr pre (f :: fs) = fieldsErr (pre ++ [f]) fs := by
  have : pre.any (fun o => o.name == f.name) = false := by
    rw [List.any_eq_false]
    intro x hx
    obtain ⟨j, hj, rfl⟩ := List.getElem_of_mem hx
    simpa using e j hj
  simp [fieldsErr, h, this]
theorem fieldsErr_at {l : List Field} {i : Nat} (hi : i < l.length) : fieldsErr (l.take i) (l.drop i) = fieldsErr (l.take i) (l[i] :: l.drop (i + 1)) := by
  rw [List.drop_eq_getElem_cons hi]
theorem fieldsErr_end {l : List Field} {i : Nat} (hi : l.length ≤ i) : fieldsErr (l.take i) (l.drop i) = 0 := by
  rw [List.drop_of_length_le hi]; rfl
theorem nameOk_no (l : List UInt8) (j : Nat) (hj : j < l.length) (h : chOk l j = false) : nameOk l = false := by
  have : (List.range l.length).all (chOk l) = false := by
    rw [List.all_eq_false]
    exact ⟨j, List.mem_range.2 hj, by simp [h]⟩
  simp [nameOk, this]
theorem nameOk_yes (l : List UInt8) (h0 : 0 < l.length) (h1 : l.length ≤ 16) (h : ∀ j, j < l.length → chOk l j = true) : nameOk l = true := by
  have : (List.range l.length).all (chOk l) = true := by
    rw [List.all_eq_true]
    intro x hx
    exact h x (List.mem_range.1 hx)
  simp [nameOk, this, h0, h1]
theorem nameOk_long (l : List UInt8) (h : l.length = 0 ∨ 16 < l.length) : nameOk l = false := by
  rcases h with h | h
  · simp [nameOk, h]
  · simp [nameOk, show ¬ l.length ≤ 16 from by omega]

theorem pow_bits {b : Int} (h1 : 1 ≤ b) (h2 : b ≤ 32) : (2 : Int) ≤ 2 ^ b.toNat ∧ (2 : Int) ^ b.toNat ≤ 4294967296 := by
  obtain ⟨n, rfl⟩ : ∃ n : Nat, b = n := ⟨b.toNat, by omega⟩
  rw [Int.toNat_natCast]
  have h : n = 1 ∨ n = 2 ∨ n = 3 ∨ n = 4 ∨ n = 5 ∨ n = 6 ∨ n = 7 ∨ n = 8 ∨ n = 9 ∨ n = 10 ∨ n = 11 ∨ n = 12 ∨ n = 13 ∨ n = 14 ∨ n = 15 ∨ n = 16 ∨ n = 17 ∨ n = 18 ∨ n = 19 ∨ n = 20 ∨ n = 21 ∨ n = 22 ∨ n = 23 ∨ n = 24 ∨ n = 25 ∨ n = 26 ∨ n = 27 ∨ n = 28 ∨ n = 29 ∨ n = 30 ∨ n = 31 ∨ n = 32 := by omega
  rcases h with rfl | rfl | rfl | rfl | rfl | rfl | rfl | rfl | rfl | rfl | rfl | rfl | rfl | rfl | rfl | rfl | rfl | rfl | rfl | rfl | rfl | rfl | rfl | rfl | rfl | rfl | rfl | rfl | rfl | rfl | rfl | rfl <;> decide
theorem highOf_eq {f : Field} (h : fieldErr f = 0) : highOf f = f.low + (2 ^ f.bits.toNat - 1) := by simp [highOf, h]
theorem highOf_bd {f : Field} (h : fieldErr f = 0) : f.low < highOf f ∧ highOf f ≤ 8589934592 := by
  have hb := (fieldErr_eq_zero f).1 h
  have := pow_bits hb.2.1 hb.2.2.1
  rw [highOf_eq h]
  omega
theorem fieldsErr_zero {pre l : List Field} (h : fieldsErr pre l = 0) : ∀ f ∈ l, fieldErr f = 0 := by
  induction l generalizing pre with
  | nil => intro f hf; cases hf
  | cons x l ih =>
    intro f hf
    simp only [fieldsErr] at h
    split at h
    · rename_i hx; exact absurd h hx
    · rename_i hx
      split at h
      · simp at h
      · rcases List.mem_cons.1 hf with rfl | hf
        · simpa using hx
        · exact ih h f hf
theorem oneErr_zero {k : Kind} (h : oneErr k = 0) : nameOk k.name = true ∧ k.fields.length ≤ 8 ∧ ∀ f ∈ k.fields, fieldErr f = 0 := by
  unfold oneErr at h
  split at h
  · rename_i h1
    split at h
    · simp at h
    · rename_i h2
      exact ⟨h1, by omega, fieldsErr_zero h⟩
  · simp at h
end Go.Proofs.Ytanokoededdceaa

namespace Go.Proofs.Ytanokoededdceaa
set_option linter.unusedVariables false
end Go.Proofs.Ytanokoededdceaa

namespace Go.Proofs.Ytanokoededdceaa
set_option linter.unusedVariables false
end Go.Proofs.Ytanokoededdceaa

namespace Go.Proofs.Ytanokoededdceaa
set_option linter.unusedVariables false
end Go.Proofs.Ytanokoededdceaa

namespace Go.Proofs.Ytanokoededdceaa
set_option linter.unusedVariables false
end Go.Proofs.Ytanokoededdceaa

namespace Go.Proofs.Ytanokoededdceaa
set_option linter.unusedVariables false
/-- Bounds on the lengths of lists. -/
def KsL (ks : List Kind) : Prop := ks.length ≤ 1099511627776 ∧ ∀ k ∈ ks, k.fields.length ≤ 1099511627776
def CsL (cs : List Comp) : Prop := cs.length ≤ 1099511627776 ∧ ∀ c ∈ cs, c.vals.length ≤ 1099511627776
def ItL (l : List Item) : Prop := l.length ≤ 1099511627776 ∧ ∀ it ∈ l, CsL it.comps
structure WdL (w : Wd) : Prop where
  ks : KsL w.kinds
  gens : w.gens.length ≤ 1099511627776
  items : ItL w.items
end Go.Proofs.Ytanokoededdceaa

namespace Go.Proofs.Ytanokoededdceaa
set_option linter.unusedVariables false
/-- Has some item the slot n? -/
def usedB (l : List Item) (n : Int) : Bool := l.any fun it => decide (it.ent.n = n)
/-- The first free slot. -/
def freeN (w : Wd) : Option Nat := (List.range w.gens.length).find? fun n => !usedB w.items n && decide (w.gens.getD n 0 < 1073741824)
def freeOf (w : Wd) : Nat × Bool := match freeN w with
  | some n => (n, true)
  | none => (w.gens.length, decide ((w.gens.length : Int) < 256))
def useL (l : List Item) (n : Nat) : List Bool := (List.range n).map fun (j : Nat) => usedB l j
theorem useL_len (l : List Item) (n : Nat) : (useL l n).length = n := by simp [useL]
theorem useL_at {l : List Item} {n j : Nat} (h : j < n) : ((useL l n).map bA)[j]? = some (bA (usedB l j)) := by
  simp [useL, h]
theorem usedB_take {l : List Item} {i : Nat} (h : i < l.length) (n : Int) : usedB (l.take (i + 1)) n = (usedB (l.take i) n || decide (l[i].ent.n = n)) := by
  unfold usedB
  rw [List.take_succ_eq_append_getElem h, List.any_append]
  simp
theorem useL_set {l : List Item} {i n j : Nat} (h : i < l.length) (e : l[i].ent.n = (j : Int)) : ((useL (l.take i) n).map bA).set j (bA true) = (useL (l.take (i + 1)) n).map bA := by
  rw [← List.map_set]
  congr 1
  apply List.ext_getElem (by simp [useL])
  intro q h1 h2
  rw [List.getElem_set]
  simp only [useL, List.getElem_map, List.getElem_range]
  rw [usedB_take h, e]
  by_cases hq : j = q
  · subst hq; simp
  · rw [if_neg hq, decide_eq_false (p := (j : Int) = q) (by omega), Bool.or_false]
theorem useL_same {l : List Item} {i n : Nat} (h : i < l.length) (e : ∀ j < n, l[i].ent.n ≠ (j : Nat)) : useL (l.take i) n = useL (l.take (i + 1)) n := by
  apply List.ext_getElem (by simp [useL])
  intro q h1 h2
  simp only [useL, List.getElem_map, List.getElem_range]
  rw [usedB_take h, decide_eq_false (e q (by simpa [useL] using h1)), Bool.or_false]
set_option maxRecDepth 4000 in
theorem free_ps (w : Wd) (hg : w.gens.length ≤ 1099511627776) (hi : w.items.length ≤ 1099511627776) : PS Try.prog 39 [wdA false w] (.tup [iA (freeOf w).1, bA (freeOf w).2]) := by
  obtain ⟨ks, gens, items⟩ := w
  dsimp only at hg hi
  have hgm : (gens.map iA).length = gens.length := List.length_map _
  have him : (items.map (itemA false)).length = items.length := List.length_map _
  have hz0 : List.replicate (gens.map iA).length (bA false) = (useL (items.take 0) gens.length).map bA := by
    rw [hgm]
    apply List.ext_getElem (by simp [useL])
    intro q h1 h2
    simp [useL, usedB]
  have hfr : ∀ j, (∀ q < j, (!usedB items (q : Nat) && decide (gens.getD q 0 < 1073741824)) = false) → j < gens.length → (!usedB items (j : Nat) && decide (gens.getD j 0 < 1073741824)) = true → freeOf ⟨ks, gens, items⟩ = (j, true) := by
    intro j h1 h2 h3
    have : freeN ⟨ks, gens, items⟩ = some j := by
      unfold freeN
      rw [List.find?_eq_some_iff_getElem]
      exact ⟨h3, j, by simpa using h2, by simp, fun q hq => by have := h1 q hq; simp only [List.getElem_range]; rw [this]; rfl⟩
    unfold freeOf
    rw [this]
  have hfn : (∀ q < gens.length, (!usedB items (q : Nat) && decide (gens.getD q 0 < 1073741824)) = false) → freeOf ⟨ks, gens, items⟩ = (gens.length, decide ((gens.length : Int) < 256)) := by
    intro h1
    have : freeN ⟨ks, gens, items⟩ = none := by
      unfold freeN
      rw [List.find?_eq_none]
      intro q hq
      have := h1 q (by simpa using hq)
      rw [this]; simp
    unfold freeOf
    rw [this]
  refine Spec.of (nt := 64) (res := [.tmp 2, .tmp 3]) Try.func39 rfl (by kernel_rfl) rfl rfl rfl fun Sf => ?_
  (repeat refine WF ?_); refine AWP.region ?_; (repeat (first | (refine AOps.gN ?_; first | (refine AOps.g_box ?_; refine AOps.goB ?_)) | refine WO ?_ | refine All.i fun X => ?_ | refine AllY.i fun Y => ?_)); refine AOps.nil ?_; (repeat refine WN ?_)
  (repeat (first | (refine AOps.gN ?_; first | (refine AOps.g_make ?_; refine AOps.goM (bA false) fun K => ?_)) | refine WK ?_ | refine All.i fun K => ?_ | refine AllY.i fun Y => ?_))
  rw [hz0]
  refine AWP.lp2 (fun (i : Nat) (M : List AV) => ⟨[(1, .fp (wdA false ⟨ks, gens, items⟩).cells), (4, .sl K 0 (gens.map iA).length), (14, itemsA false false items), (15, iA (items.map (itemA false)).length), (16, iA i)], (K, .row 4 1 M) :: Sf⟩) (fun i M => i ≤ items.length ∧ M = (useL (items.take i) gens.length).map bA) (fun i _ => items.length - i) 0 _ ⟨Nat.zero_le _, rfl⟩ ?_
  rintro i M ⟨hil, hM⟩
  have hMl : M.length = gens.length := by rw [hM, List.length_map, useL_len]
  (repeat (first | refine WK ?_ | refine All.i fun X => ?_ | refine AllY.i fun Y => ?_))
  refine AWP.cond rfl (fun hc => ?_) (fun hc => ?_)
  · have h : i < items.length := by rw [decide_eq_true_eq, him] at hc; omega
    obtain ⟨⟨⟨en, eg⟩, cs⟩, hit⟩ : ∃ it, items[i] = it := ⟨_, rfl⟩
    have hat : (items.map (itemA false))[i]? = some (itemA false ⟨⟨en, eg⟩, cs⟩) := by rw [List.getElem?_map, List.getElem?_eq_getElem h, hit]; rfl
    (repeat (first | refine WK ?_ | refine All.i fun V => ?_ | refine AllY.i fun Y => ?_))
    rcases Bool.eq_false_or_eq_true (decide ((0 : Int) ≤ en)) with g1 | g1
    · obtain ⟨n, rfl⟩ : ∃ n : Nat, en = n := ⟨en.toNat, by rw [decide_eq_true_eq] at g1; omega⟩
      rcases Bool.eq_false_or_eq_true (decide ((n : Int) < ((gens.map iA).length : Nat))) with g2 | g2
      · have hng : n < gens.length := by rw [decide_eq_true_eq, hgm] at g2; omega
        have hMat : M[n]? = some (bA (usedB (items.take i) n)) := by rw [hM]; exact useL_at hng
        have hlt : n < (gens.map iA).length := by omega
        (repeat (first | refine WK ?_ | refine All.i fun X => ?_ | refine AllY.i fun Y => ?_))
        refine AWP.cond_t rfl (by first | rfl | assumption) ?_
        (repeat (first | refine WK ?_ | refine All.i fun X => ?_ | refine AllY.i fun Y => ?_))
        refine lp_next2 (i + 1) _ ⟨h, ?_⟩
        rw [hM]
        exact useL_set h (by rw [hit])
      · (repeat (first | refine WK ?_ | refine All.i fun X => ?_ | refine AllY.i fun Y => ?_))
        refine AWP.cond_f rfl (by first | rfl | assumption) ?_
        (repeat (first | refine WK ?_ | refine All.i fun X => ?_ | refine AllY.i fun Y => ?_))
        refine lp_next2 (i + 1) M ⟨h, ?_⟩
        rw [hM, useL_same h fun j hj => by rw [hit]; rw [decide_eq_false_iff_not, hgm] at g2; show (n : Int) ≠ j; omega]
    · (repeat (first | refine WK ?_ | refine All.i fun X => ?_ | refine AllY.i fun Y => ?_))
      refine AWP.cond_f rfl (by show (decide ((0 : Int) ≤ en) && _) = false; rw [g1]; rfl) ?_
      (repeat (first | refine WK ?_ | refine All.i fun X => ?_ | refine AllY.i fun Y => ?_))
      refine lp_next2 (i + 1) M ⟨h, ?_⟩
      rw [hM, useL_same h fun j hj => by rw [hit]; rw [decide_eq_false_iff_not] at g1; show en ≠ j; omega]
  · have h : i = items.length := by rw [decide_eq_false_iff_not, him] at hc; omega
    rw [h, List.take_length] at hM
    clear hz0 hc hil h
    (repeat (first | refine WK ?_ | refine All.i fun X => ?_ | refine AllY.i fun Y => ?_))
    refine AWP.lp (fun (j : Nat) => ⟨[(1, .fp (wdA false ⟨ks, gens, items⟩).cells), (4, .sl K 0 (gens.map iA).length), (39, intsA false gens), (40, iA (gens.map iA).length), (41, iA j)], (K, .row 4 1 M) :: Sf⟩) (fun j => j ≤ gens.length ∧ ∀ q < j, (!usedB items (q : Nat) && decide (gens.getD q 0 < 1073741824)) = false) (fun j => gens.length - j) 0 ⟨Nat.zero_le _, fun q hq => absurd hq (by omega)⟩ ?_
    rintro j ⟨hj, hall⟩
    (repeat (first | refine WK ?_ | refine All.i fun X => ?_ | refine AllY.i fun Y => ?_))
    refine AWP.cond rfl (fun hc => ?_) (fun hc => ?_)
    · have h : j < gens.length := by rw [decide_eq_true_eq, hgm] at hc; omega
      have hjm : j < (gens.map iA).length := by omega
      obtain ⟨x, hx⟩ : ∃ x, gens[j] = x := ⟨_, rfl⟩
      have hat : (gens.map iA)[j]? = some (iA x) := by rw [List.getElem?_map, List.getElem?_eq_getElem h, hx]; rfl
      have hMat : M[j]? = some (bA (usedB items j)) := by rw [hM]; exact useL_at h
      have hgd : gens.getD j 0 = x := by simp [List.getD_eq_getElem?_getD, List.getElem?_eq_getElem h, hx]
      (repeat (first | refine WK ?_ | refine All.i fun X => ?_ | refine AllY.i fun Y => ?_))
      refine AWP.cond rfl (fun he => ?_) (fun he => ?_)
      · rw [hfr j hall h (by rw [hgd]; exact he)]
        (repeat (first | refine WK ?_ | refine All.i fun X => ?_ | refine AllY.i fun Y => ?_))
        (refine AWP.ret ?_; (repeat (first | refine inB_r ?_ | refine andThen_r ?_)); refine retQ_r ?_)
        exact ⟨[iA j, bA true], [iA j, bA true], _, [], .cons (.tmp rfl) rfl (.cons (.tmp rfl) rfl .nil), .cons (.cell .same) (.cons (.cell .same) .nil), by exact Sub.f, rfl, rfl⟩
      · (repeat (first | refine WK ?_ | refine All.i fun X => ?_ | refine AllY.i fun Y => ?_))
        refine lp_next (j + 1) ⟨h, fun q hq => ?_⟩
        by_cases e : q = j
        · subst e; rw [hgd]; exact he
        · exact hall q (by omega)
    · have h : j = gens.length := by rw [decide_eq_false_iff_not, hgm] at hc; omega
      rw [h] at hall
      rw [hfn hall, ← hgm]
      (repeat first | refine AOps.nil ?_ | refine WF ?_)
      (repeat refine WF ?_); refine AWP.region_run (by kernel_rfl) (by kernel_rfl) ?_; (repeat (first | refine RK ?_ | refine RGo.nil (by kernel_rfl) ?_))
      (refine AWP.ret ?_; (repeat (first | refine inB_r ?_ | refine andThen_r ?_)); refine retQ_r ?_)
      exact ⟨[iA (gens.map iA).length, bA (decide (((gens.map iA).length : Int) < 256))], [iA (gens.map iA).length, bA (decide (((gens.map iA).length : Int) < 256))], _, [], .cons (.tmp rfl) rfl (.cons (.tmp rfl) rfl .nil), .cons (.cell .same) (.cons (.cell .same) .nil), by exact Sub.f, rfl, rfl⟩
end Go.Proofs.Ytanokoededdceaa

namespace Go.Proofs.Ytanokoededdceaa
set_option linter.unusedVariables false
theorem chOk_int (s : List UInt8) (i : Nat) : chOk s i = (decide ((97 : Int) ≤ (s.getD i 0).toNat) && decide (((s.getD i 0).toNat : Int) ≤ 122) || decide ((0 : Int) < i) && decide ((48 : Int) ≤ (s.getD i 0).toNat) && decide (((s.getD i 0).toNat : Int) ≤ 57)) := by
  have h : ∀ a b : UInt8, decide (a ≤ b) = decide ((a.toNat : Int) ≤ b.toNat) := fun a b => by simp [UInt8.le_iff_toNat_le]
  have h0 : decide (0 < i) = decide ((0 : Int) < i) := by simp
  simp only [chOk, lowc, digc, h, h0, Bool.and_assoc]
  rfl
theorem name_ps (s : List UInt8) : PS Try.prog 67 [sA s] (bA (nameOk s)) := by
  refine Spec.of (nt := 41) (res := [.tmp 2]) Try.func67 rfl (by kernel_rfl) rfl rfl rfl fun Sf => ?_
  (repeat (first | refine WK ?_ | refine All.i fun X => ?_ | refine AllY.i fun Y => ?_))
  refine AWP.cond rfl (fun hb => ?_) (fun hb => ?_)
  · (repeat (first | refine WK ?_ | refine All.i fun X => ?_ | refine AllY.i fun Y => ?_))
    (refine AWP.ret ?_; (repeat (first | refine inB_r ?_ | refine andThen_r ?_)); refine retQ_r ?_)
    refine Ends.plain rfl rfl (by exact Sub.f) ⟨?_, rfl⟩
    rw [nameOk_long s (by simp only [Bool.or_eq_true, decide_eq_true_eq] at hb; omega)]
  have hb1 : s.length ≠ 0 ∧ s.length ≤ 16 := by simp only [Bool.or_eq_false_iff, decide_eq_false_iff_not] at hb; omega
  (repeat (first | refine AWP.loopR (fun i : Nat => ⟨[(0, sA s), (14, iA s.length), (15, iA i)], Sf⟩) (fun i => i ≤ s.length ∧ ∀ j, j < i → chOk s j = true) (fun i => s.length - i) 0 ⟨by omega, by omega⟩ ⟨.cons rfl (.cons rfl (.cons rfl .nil)), List.Sublist.refl _⟩ ?_ | refine WK ?_ | refine All.i fun X => ?_ | refine AllY.i fun Y => ?_))
  rintro i ⟨hi, hn⟩
  (repeat (first | refine WK ?_ | refine All.i fun X => ?_ | refine AllY.i fun Y => ?_))
  refine AWP.cond rfl (fun hb => ?_) (fun hb => ?_)
  · have h : i < s.length := by simpa using hb
    (repeat (first | (refine AOps.gN ?_; first | refine AOps.p (W.idxStr rfl rfl rfl h) rfl ?_) | refine WK ?_ | refine All.i fun X => ?_ | refine AllY.i fun Y => ?_))
    refine AWP.cond rfl (fun hc => ?_) (fun hc => ?_)
    · (repeat (first | refine WK ?_ | refine All.i fun X => ?_ | refine AllY.i fun Y => ?_))
      (refine AWP.ret ?_; (repeat (first | refine inB_r ?_ | refine andThen_r ?_)); refine retQ_r ?_)
      refine Ends.plain rfl rfl (by exact Sub.f) ⟨?_, rfl⟩
      rw [← chOk_int] at hc
      rw [nameOk_no s i h (by simpa using hc)]
    · (repeat (first | refine WK ?_ | refine All.i fun X => ?_ | refine AllY.i fun Y => ?_))
      refine ⟨i + 1, ⟨by omega, fun j hj => ?_⟩, by omega, .cons rfl (.cons rfl (.cons rfl .nil)), by exact Sub.f⟩
      rw [← chOk_int] at hc
      by_cases e : j = i
      · subst e; simpa using hc
      · exact hn j (by omega)
  · have h : ¬ i < s.length := by simpa using hb
    (repeat (first | refine WK ?_ | refine All.i fun X => ?_ | refine AllY.i fun Y => ?_))
    (refine AWP.ret ?_; (repeat (first | refine inB_r ?_ | refine andThen_r ?_)); refine retQ_r ?_)
    refine Ends.plain rfl rfl (by exact Sub.f) ⟨?_, rfl⟩
    rw [nameOk_yes s (by omega) hb1.2 fun j hj => hn j (by omega)]
end Go.Proofs.Ytanokoededdceaa

namespace Go.Proofs.Ytanokoededdceaa
set_option linter.unusedVariables false
theorem field_ps (f : Field) : PS Try.prog 68 [fieldA f] (iA (fieldErr f)) := by
  refine Spec.of (nt := 27) (res := [.tmp 2]) Try.func68 rfl (by kernel_rfl) rfl rfl rfl fun Sf => ?_
  (repeat (first | (refine AOps.gN ?_; first | refine AOps.p (W.call1 rfl (name_ps _) rfl) rfl ?_) | refine WK ?_ | refine All.i fun X => ?_ | refine AllY.i fun Y => ?_))
  refine AWP.cond rfl (fun hb => ?_) (fun hb => ?_)
  · (repeat (first | refine WK ?_ | refine All.i fun X => ?_ | refine AllY.i fun Y => ?_))
    (refine AWP.ret ?_; (repeat (first | refine inB_r ?_ | refine andThen_r ?_)); refine retQ_r ?_)
    refine Ends.plain rfl rfl (by exact Sub.f) ⟨?_, rfl⟩
    rw [fieldErr_no f fun hn hk => ?_]
    simp only [hn, Bool.not_true, Bool.false_or, Bool.or_eq_true, decide_eq_true_eq] at hb
    omega
  · (repeat (first | refine WK ?_ | refine All.i fun X => ?_ | refine AllY.i fun Y => ?_))
    (refine AWP.ret ?_; (repeat (first | refine inB_r ?_ | refine andThen_r ?_)); refine retQ_r ?_)
    refine Ends.plain rfl rfl (by exact Sub.f) ⟨?_, rfl⟩
    simp only [Bool.or_eq_false_iff, Bool.not_eq_false', decide_eq_false_iff_not] at hb
    rw [fieldErr_ok f hb.1.1.1.1 (by omega)]
end Go.Proofs.Ytanokoededdceaa

namespace Go.Proofs.Ytanokoededdceaa
set_option linter.unusedVariables false
theorem high_ps (f : Field) : PS Try.prog 74 [fieldA f] (iA (highOf f)) := by
  refine Spec.of (nt := 13) (res := [.tmp 2]) Try.func74 rfl (by kernel_rfl) rfl rfl rfl fun Sf => ?_
  (repeat (first | (refine AOps.gN ?_; first | refine AOps.p (W.call1 rfl (field_ps _) rfl) rfl ?_) | refine WK ?_ | refine All.i fun X => ?_ | refine AllY.i fun Y => ?_))
  refine AWP.cond rfl (fun hb => ?_) (fun hb => ?_)
  · have hb : fieldErr f ≠ 0 := by simpa using hb
    (repeat (first | refine WK ?_ | refine All.i fun X => ?_ | refine AllY.i fun Y => ?_))
    (refine AWP.ret ?_; (repeat (first | refine inB_r ?_ | refine andThen_r ?_)); refine retQ_r ?_)
    refine Ends.plain rfl rfl (by exact Sub.f) ⟨?_, rfl⟩
    simp [highOf, hb]
  have hb : fieldErr f = 0 := by simpa using hb
  have h1 := (fieldErr_eq_zero f).1 hb
  obtain ⟨n, hn⟩ : ∃ n : Nat, f.bits = n := ⟨f.bits.toNat, by omega⟩
  have hp : (2 : Int) ^ n ≤ 4294967296 ∧ 1 ≤ (2 : Int) ^ n := by
    have hn2 : n ≤ 32 := by omega
    clear hn
    have : ∀ n, n ≤ 32 → (2 : Int) ^ n ≤ 4294967296 ∧ 1 ≤ (2 : Int) ^ n := by decide
    exact this n hn2
  have hw : IntKind.i64.wrap (1 * 2 ^ n) = 2 ^ n := by rw [Int.one_mul]; exact wrap_id (by omega) (by omega)
  (repeat (first | refine WK ?_ | refine All.i fun X => ?_ | refine AllY.i fun Y => ?_))
  (repeat refine WF ?_); refine AWP.region_run (by kernel_rfl) (by kernel_rfl) ?_; (repeat (first | (refine RGo.gN ?_; first | refine RGo.p (W.shl rfl rfl hn (by show n ≤ 64; omega)) rfl ?_ | refine RGo.p (W.sub rfl rfl (by rw [hw]; omega)) rfl ?_ | refine RGo.p (W.add rfl rfl (by rw [hw]; omega)) rfl ?_) | (refine RGo.gQ ?_; first | refine RGo.p (W.shl rfl rfl hn (by show n ≤ 64; omega)) rfl ?_ | refine RGo.p (W.sub rfl rfl (by rw [hw]; omega)) rfl ?_ | refine RGo.p (W.add rfl rfl (by rw [hw]; omega)) rfl ?_) | refine RK ?_ | refine RGo.nil (by kernel_rfl) ?_))
  (repeat (first | refine WK ?_ | refine All.i fun X => ?_ | refine AllY.i fun Y => ?_))
  (refine AWP.ret ?_; (repeat (first | refine inB_r ?_ | refine andThen_r ?_)); refine retQ_r ?_)
  refine Ends.plain rfl rfl (by exact Sub.f) ⟨?_, rfl⟩
  simp only [hw]
  simp [highOf, hb, hn]
theorem near_ps (f : Field) (v : Int) : PS Try.prog 70 [fieldA f, iA v] (iA (nearOf f v)) := by
  refine Spec.of (nt := 15) (res := [.tmp 4]) Try.func70 rfl (by kernel_rfl) rfl rfl rfl fun Sf => ?_
  (repeat (first | (refine AOps.gN ?_; first | refine AOps.p (W.call1 rfl (field_ps _) rfl) rfl ?_) | refine WK ?_ | refine All.i fun X => ?_ | refine AllY.i fun Y => ?_))
  refine AWP.cond rfl (fun hb => ?_) (fun hb => ?_)
  · have hb : fieldErr f ≠ 0 := by simpa using hb
    (repeat (first | refine WK ?_ | refine All.i fun X => ?_ | refine AllY.i fun Y => ?_))
    (refine AWP.ret ?_; (repeat (first | refine inB_r ?_ | refine andThen_r ?_)); refine retQ_r ?_)
    refine Ends.plain rfl rfl (by exact Sub.f) ⟨?_, rfl⟩
    simp [nearOf, hb]
  have hb : fieldErr f = 0 := by simpa using hb
  (repeat (first | refine WK ?_ | refine All.i fun X => ?_ | refine AllY.i fun Y => ?_))
  (repeat refine WF ?_); refine AWP.region_run (by kernel_rfl) (by kernel_rfl) ?_; (repeat (first | (refine RGo.gN ?_; first | refine RGo.p (W.call1 rfl (high_ps _) rfl) rfl ?_) | (refine RGo.gQ ?_; first | refine RGo.p (W.call1 rfl (high_ps _) rfl) rfl ?_) | refine RK ?_ | refine RGo.nil (by kernel_rfl) ?_))
  (repeat (first | refine WK ?_ | refine All.i fun X => ?_ | refine AllY.i fun Y => ?_))
  (refine AWP.ret ?_; (repeat (first | refine inB_r ?_ | refine andThen_r ?_)); refine retQ_r ?_)
  refine Ends.plain rfl rfl (by exact Sub.f) ⟨?_, rfl⟩
  rw [show nearOf f v = max f.low (min v (highOf f)) from by simp [nearOf, hb]]
  simp only [Int.max_def, Int.min_def]
  congr 2
  (repeat' split) <;> omega
end Go.Proofs.Ytanokoededdceaa

namespace Go.Proofs.Ytanokoededdceaa
set_option linter.unusedVariables false
theorem one_ps (k : Kind) : PS Try.prog 54 [kindA false k] (iA (oneErr k)) := by
  refine Spec.of (nt := 45) (res := [.tmp 2]) Try.func54 rfl (by kernel_rfl) rfl rfl rfl fun Sf => ?_
  (repeat (first | (refine AOps.gN ?_; first | refine AOps.p (W.call1 rfl (name_ps _) rfl) rfl ?_ | (refine AOps.rs fun X1 => ?_; refine AOps.s (W.box rfl .here rfl) rfl ?_)) | refine WK ?_ | refine All.i fun X => ?_ | refine AllY.i fun Y => ?_))
  refine AWP.cond rfl (fun hb => ?_) (fun hb => ?_)
  · (repeat (first | refine WK ?_ | refine All.i fun X => ?_ | refine AllY.i fun Y => ?_))
    (refine AWP.ret ?_; (repeat (first | refine inB_r ?_ | refine andThen_r ?_)); refine retQ_r ?_)
    refine Ends.plain rfl rfl (by exact Sub.f) ⟨?_, rfl⟩
    have hb : nameOk k.name = false := by simpa using hb
    rw [show oneErr k = 3 from by simp [oneErr, hb]]
  have hn : nameOk k.name = true := by simpa using hb
  (repeat (first | refine WK ?_ | refine All.i fun X => ?_ | refine AllY.i fun Y => ?_))
  refine AWP.cond rfl (fun hb => ?_) (fun hb => ?_)
  · (repeat (first | refine WK ?_ | refine All.i fun X => ?_ | refine AllY.i fun Y => ?_))
    (refine AWP.ret ?_; (repeat (first | refine inB_r ?_ | refine andThen_r ?_)); refine retQ_r ?_)
    refine Ends.plain rfl rfl (by exact Sub.f) ⟨?_, rfl⟩
    have hb : 8 < k.fields.length := by rw [decide_eq_true_eq, List.length_map] at hb; omega
    rw [show oneErr k = 2 from by simp [oneErr, hn, hb]]
  have hl : k.fields.length ≤ 8 := by rw [decide_eq_false_iff_not, List.length_map] at hb; omega
  have e1 : oneErr k = fieldsErr [] k.fields := by simp [oneErr, hn]; omega
  (repeat (first | refine AWP.loopR (fun i : Nat => ⟨[(1, .ptr X1 0 0), (17, fieldsA false k.fields), (18, iA (k.fields.map fieldA).length), (19, iA i)], (X1, .row 67 2 [kindA false k]) :: Sf⟩) (fun i => i ≤ k.fields.length ∧ fieldsErr [] k.fields = fieldsErr (k.fields.take i) (k.fields.drop i)) (fun i => k.fields.length - i) 0 ⟨by omega, rfl⟩ ⟨.cons rfl (.cons rfl (.cons rfl (.cons rfl .nil))), by exact Sub.f⟩ ?_ | refine WK ?_ | refine All.i fun X => ?_ | refine AllY.i fun Y => ?_))
  rintro i ⟨hi, he⟩
  (repeat (first | refine WK ?_ | refine All.i fun X => ?_ | refine AllY.i fun Y => ?_))

  refine AWP.cond rfl (fun hb => ?_) (fun hb => ?_)
  · have h : i < k.fields.length := by simpa using hb
    (repeat (first | (refine AOps.gN ?_; first | refine AOps.p (W.idxL rfl rfl rfl (map_at _ h)) rfl ?_ | refine AOps.p (W.call1 rfl (field_ps _) rfl) rfl ?_) | refine WK ?_ | refine All.i fun X => ?_ | refine AllY.i fun Y => ?_))
    refine AWP.cond rfl (fun hc => ?_) (fun hc => ?_)
    · have hc : fieldErr k.fields[i] ≠ 0 := by simpa using hc
      (repeat (first | refine WK ?_ | refine All.i fun X => ?_ | refine AllY.i fun Y => ?_))
      (refine AWP.ret ?_; (repeat (first | refine inB_r ?_ | refine andThen_r ?_)); refine retQ_r ?_)
      refine Ends.plain rfl rfl (by exact Sub.f) ⟨?_, rfl⟩
      rw [e1, he, fieldsErr_at h, fieldsErr_bad hc]
      rfl
    have hc : fieldErr k.fields[i] = 0 := by simpa using hc
    have hmt : ((k.fields.map fieldA).take i).length = i := by simp; omega
    (repeat (first | (refine AOps.gN ?_; first | refine AOps.p (W.hiL rfl rfl rfl (by simp; omega)) rfl ?_) | refine AWP.loopR (fun j : Nat => ⟨[(1, .ptr X1 0 0), (17, fieldsA false k.fields), (18, iA (k.fields.map fieldA).length), (19, iA i), (3, iA i), (4, .ptr X 0 0), (32, .lst false 64 3 ((k.fields.map fieldA).take i)), (33, iA ((k.fields.map fieldA).take i).length), (34, iA j)], (X, .row 64 3 [fieldA k.fields[i]]) :: (X1, .row 67 2 [kindA false k]) :: Sf⟩) (fun j => j ≤ i ∧ ∀ q (hq : q < k.fields.length), q < j → k.fields[q].name ≠ k.fields[i].name) (fun j => i - j) 0 ⟨by omega, by omega⟩ ⟨.cons rfl (.cons rfl (.cons rfl (.cons rfl (.cons rfl (.cons rfl (.cons rfl (.cons rfl (.cons rfl .nil)))))))), by exact Sub.f⟩ ?_ | refine WK ?_ | refine All.i fun X => ?_ | refine AllY.i fun Y => ?_))
    rintro j ⟨hj, hne⟩
    (repeat (first | refine WK ?_ | refine All.i fun X => ?_ | refine AllY.i fun Y => ?_))
    refine AWP.cond rfl (fun hd => ?_) (fun hd => ?_)
    · have hd : j < i := by rw [hmt] at hd; simpa using hd
      have hat : ((k.fields.map fieldA).take i)[j]? = some (fieldA (k.fields[j]'(by omega))) := by rw [List.getElem?_take_of_lt hd]; exact map_at _ _
      (repeat (first | (refine AOps.gN ?_; first | refine AOps.p (W.idxL rfl rfl rfl hat) rfl ?_) | refine WK ?_ | refine All.i fun X => ?_ | refine AllY.i fun Y => ?_))
      refine AWP.cond rfl (fun hq => ?_) (fun hq => ?_)
      · have hq : (k.fields[j]'(by omega)).name = k.fields[i].name := by simpa using hq
        (repeat (first | refine WK ?_ | refine All.i fun X => ?_ | refine AllY.i fun Y => ?_))
        (refine AWP.ret ?_; (repeat (first | refine inB_r ?_ | refine andThen_r ?_)); refine retQ_r ?_)
        refine Ends.plain rfl rfl (by exact Sub.f) ⟨?_, rfl⟩
        rw [e1, he, fieldsErr_at h, fieldsErr_twice hc (j := j) (by simp; omega) (by simpa using hq)]
      · have hq : (k.fields[j]'(by omega)).name ≠ k.fields[i].name := by simpa using hq
        (repeat (first | refine WK ?_ | refine All.i fun X => ?_ | refine AllY.i fun Y => ?_))
        refine ⟨j + 1, ⟨by omega, fun q hq1 hq2 => ?_⟩, by omega, .cons rfl (.cons rfl (.cons rfl (.cons rfl (.cons rfl (.cons rfl (.cons rfl (.cons rfl (.cons rfl .nil)))))))), by exact Sub.f⟩
        by_cases e : q = j
        · subst e; exact hq
        · exact hne q hq1 (by omega)
    · have hd : ¬ j < i := by rw [hmt] at hd; simpa using hd
      (repeat (first | refine WK ?_ | refine All.i fun X => ?_ | refine AllY.i fun Y => ?_))
      refine ⟨i + 1, ⟨by omega, ?_⟩, by omega, .cons rfl (.cons rfl (.cons rfl (.cons rfl .nil))), by exact Sub.f⟩
      rw [he, fieldsErr_at h, fieldsErr_next hc fun q hq => ?_, List.take_add_one, List.getElem?_eq_getElem h]
      · rfl
      · simp only [List.getElem_take]
        exact hne q (by simp at hq; omega) (by simp at hq; omega)
  · have h : ¬ i < k.fields.length := by simpa using hb
    (repeat (first | refine WK ?_ | refine All.i fun X => ?_ | refine AllY.i fun Y => ?_))
    (refine AWP.ret ?_; (repeat (first | refine inB_r ?_ | refine andThen_r ?_)); refine retQ_r ?_)
    refine Ends.plain rfl rfl (by exact Sub.f) ⟨?_, rfl⟩
    rw [e1, he, fieldsErr_end (by omega)]
end Go.Proofs.Ytanokoededdceaa

namespace Go.Proofs.Ytanokoededdceaa
set_option linter.unusedVariables false
theorem oneErr_len {k : Kind} (h : oneErr k = 0) : k.fields.length ≤ 8 := by
  unfold oneErr at h
  split at h
  · split at h
    · cases h
    · omega
  · cases h
def fitL (k : Kind) (vals : List Int) (i : Nat) : List Int := (List.zipWith nearOf k.fields vals).take i ++ List.replicate (vals.length - i) 0
theorem fitL_at {k : Kind} {vals : List Int} {i : Nat} (hl : vals.length = k.fields.length) (h : i < vals.length) : ((fitL k vals i).map iA)[i]? = some (iA 0) := by
  have hz : (List.zipWith nearOf k.fields vals).length = vals.length := by simp; omega
  rw [List.getElem?_map, fitL, List.getElem?_append_right (by simp; omega)]
  rw [List.length_take, Nat.min_eq_left (by omega), Nat.sub_self, List.getElem?_replicate, if_pos (by omega)]
  rfl
theorem fitL_set {k : Kind} {vals : List Int} {i : Nat} (hl : vals.length = k.fields.length) (h : i < vals.length) : ((fitL k vals i).map iA).set i (iA (nearOf (k.fields[i]'(by omega)) vals[i])) = (fitL k vals (i + 1)).map iA := by
  have hz : (List.zipWith nearOf k.fields vals).length = vals.length := by simp; omega
  rw [← List.map_set]
  congr 1
  unfold fitL
  rw [List.set_append_right _ _ (by simp; omega), List.length_take, Nat.min_eq_left (by omega), Nat.sub_self]
  rw [show vals.length - i = (vals.length - (i + 1)) + 1 from by omega, List.replicate_succ, List.set_cons_zero]
  rw [List.take_add_one, List.getElem?_eq_getElem (by omega), List.append_assoc]
  simp
theorem fit_ps (k : Kind) (vals : List Int) : PS Try.prog 58 [kindA false k, intsA false vals] (.tup [intsA true (fitOf k vals).1, iA (fitOf k vals).2]) := by
  refine Spec.of (nt := 43) (res := [.tmp 4, .tmp 5]) Try.func58 rfl (by kernel_rfl) rfl rfl rfl fun Sf => ?_
  (repeat (first | (refine AOps.gN ?_; first | refine AOps.p (W.call1 rfl (one_ps _) rfl) rfl ?_ | (refine AOps.rs fun B => ?_; refine AOps.s (W.box rfl .here rfl) rfl ?_)) | refine WK ?_ | refine All.i fun X => ?_ | refine AllY.i fun Y => ?_))
  refine AWP.cond rfl (fun hb => ?_) (fun hb => ?_)
  · have hb : oneErr k ≠ 0 := by simpa using hb
    (repeat (first | refine WK ?_ | refine All.i fun X => ?_ | refine AllY.i fun Y => ?_))
    (refine AWP.ret ?_; (repeat (first | refine inB_r ?_ | refine andThen_r ?_)); refine retQ_r ?_)
    rw [show fitOf k vals = ([], oneErr k) from by simp [fitOf, hb]]
    exact ⟨[.prim (.slice none 0 0), iA (oneErr k)], [intsA true [], iA (oneErr k)], _, [], .cons (.tmp rfl) rfl (.cons (.tmp rfl) rfl .nil), .cons (.cell .nil) (.cons (.cell .same) .nil), by exact Sub.f, rfl, rfl⟩
  have hk : oneErr k = 0 := by simpa using hb
  have h8 := oneErr_len hk
  (repeat (first | refine WK ?_ | refine All.i fun X => ?_ | refine AllY.i fun Y => ?_))
  refine AWP.cond rfl (fun hb => ?_) (fun hb => ?_)
  · have hb : vals.length ≠ k.fields.length := by rw [decide_eq_true_eq, List.length_map, List.length_map] at hb; omega
    (repeat (first | refine WK ?_ | refine All.i fun X => ?_ | refine AllY.i fun Y => ?_))
    (refine AWP.ret ?_; (repeat (first | refine inB_r ?_ | refine andThen_r ?_)); refine retQ_r ?_)
    rw [show fitOf k vals = ([], 1) from by simp [fitOf, hk, hb]]
    exact ⟨[.prim (.slice none 0 0), iA 1], [intsA true [], iA 1], _, [], .cons (.tmp rfl) rfl (.cons (.tmp rfl) rfl .nil), .cons (.cell .nil) (.cons (.cell .same) .nil), by exact Sub.f, rfl, rfl⟩
  have hl : vals.length = k.fields.length := by rw [decide_eq_false_iff_not, List.length_map, List.length_map] at hb; omega
  have hv : (vals.map iA).length ≤ 8 := by simp; omega
  have hz : List.replicate (vals.map iA).length (zAV [.int .i64 0] false) = (fitL k vals 0).map iA := by simp [fitL]; exact .inr rfl
  (repeat (first | (refine AOps.gN ?_; first | (refine AOps.rs fun XL => ?_; refine AOps.s (W.make rfl rfl .here rfl (.inr rfl) rfl rfl (Nat.le_refl _) (by omega) (Nat.le_trans hv (by decide))) rfl ?_)) | refine AWP.loopR (fun i : Nat => ⟨[(1, intsA false vals), (7, .sl XL 0 (vals.map iA).length), (25, fieldsA false k.fields), (26, iA (k.fields.map fieldA).length), (27, iA i)], (XL, .row 3 1 ((fitL k vals i).map iA)) :: (B, .row 67 2 [kindA false k]) :: Sf⟩) (fun i => i ≤ vals.length) (fun i => vals.length - i) 0 (Nat.zero_le _) ⟨.cons rfl (.cons rfl (.cons rfl (.cons rfl (.cons rfl .nil)))), (by show List.Sublist ((XL, .row 3 1 ((fitL k vals 0).map iA)) :: (B, .row 67 2 [kindA false k]) :: Sf) _; rw [← hz]; exact Sub.f)⟩ ?_ | refine WK ?_ | refine All.i fun X => ?_ | refine AllY.i fun Y => ?_))
  rintro i hi
  (repeat (first | refine WK ?_ | refine All.i fun X => ?_ | refine AllY.i fun Y => ?_))
  refine AWP.cond rfl (fun hb => ?_) (fun hb => ?_)
  · have h : i < vals.length := by rw [decide_eq_true_eq, List.length_map] at hb; omega
    have h' : i < k.fields.length := by omega
    (repeat (first | (refine AOps.gN ?_; first | refine AOps.p (W.idxL rfl rfl rfl (map_at _ h')) rfl ?_) | refine WK ?_ | refine All.i fun X => ?_ | refine AllY.i fun Y => ?_))
    (repeat refine WF ?_); refine AWP.region_run (by kernel_rfl) (by kernel_rfl) ?_; (repeat (first | (refine RGo.gN ?_; first | refine RGo.p (W.idxL rfl rfl rfl (map_at _ h)) rfl ?_ | refine RGo.p (W.call2 rfl rfl (near_ps _ _) rfl) rfl ?_ | refine RGo.p (W.idx rfl rfl (by exact At.f) rfl (by simpa using h) (Nat.zero_add _)) rfl ?_ | refine RGo.s (W.store rfl rfl (by exact At.f) (fitL_at hl h) (by exact rfl)) rfl ?_) | (refine RGo.gQ ?_; first | refine RGo.p (W.idxL rfl rfl rfl (map_at _ h)) rfl ?_ | refine RGo.p (W.call2 rfl rfl (near_ps _ _) rfl) rfl ?_ | refine RGo.p (W.idx rfl rfl (by exact At.f) rfl (by simpa using h) (Nat.zero_add _)) rfl ?_ | refine RGo.s (W.store rfl rfl (by exact At.f) (fitL_at hl h) (by exact rfl)) rfl ?_) | refine RK ?_ | refine RGo.nil (by kernel_rfl) ?_))
    (repeat (first | refine WK ?_ | refine All.i fun X => ?_ | refine AllY.i fun Y => ?_))
    refine ⟨i + 1, by omega, by omega, .cons rfl (.cons rfl (.cons rfl (.cons rfl (.cons rfl .nil)))), ?_⟩
    show List.Sublist ((XL, .row 3 1 ((fitL k vals (i + 1)).map iA)) :: (B, .row 67 2 [kindA false k]) :: Sf) _
    rw [← fitL_set hl h]
    exact Sub.f
  · have h : ¬ i < vals.length := by rw [decide_eq_false_iff_not, List.length_map] at hb; omega
    (repeat (first | refine WK ?_ | refine All.i fun X => ?_ | refine AllY.i fun Y => ?_))
    (refine AWP.ret ?_; (repeat (first | refine inB_r ?_ | refine andThen_r ?_)); refine retQ_r ?_)
    rw [show fitOf k vals = (List.zipWith nearOf k.fields vals, 0) from by simp [fitOf, hk, hl]]
    have he : (fitL k vals i).map iA = (List.zipWith nearOf k.fields vals).map iA := by
      congr 1
      rw [fitL, show vals.length - i = 0 from by omega, List.take_of_length_le (by simp; omega)]
      simp
    refine ⟨[.sl XL 0 (vals.map iA).length, iA 0], [.lst true 3 1 ((fitL k vals i).map iA), iA 0], _, [], .cons (.tmp rfl) rfl (.cons (.tmp rfl) rfl .nil), .cons (.cell (.sl (p := 0) .here (by rw [he]; simp; omega))) (.cons (.cell .same) .nil), by exact Sub.f, ?_, rfl⟩
    rw [he]
    rfl
end Go.Proofs.Ytanokoededdceaa

namespace Go.Proofs.Ytanokoededdceaa
set_option linter.unusedVariables false
theorem fitOf_len8 {k : Kind} {vals : List Int} (h : (fitOf k vals).2 = 0) : (fitOf k vals).1.length = vals.length ∧ vals.length ≤ 8 := by
  unfold fitOf at h ⊢
  split
  · rename_i h1; rw [if_pos h1] at h; exact absurd h h1
  · rename_i h1
    rw [if_neg h1] at h
    split
    · rename_i h2; rw [if_pos h2] at h; cases h
    · rename_i h2; have := oneErr_len (Decidable.not_not.1 h1); simp; omega
theorem holds_ps (k : Kind) (vals : List Int) : PS Try.prog 66 [kindA false k, intsA false vals] (bA (holdsOf k vals)) := by
  refine Spec.of (nt := 31) (res := [.tmp 4]) Try.func66 rfl (by kernel_rfl) rfl rfl rfl fun Sf => ?_
  have hfr : (AV.tup [intsA true (fitOf k vals).1, iA (fitOf k vals).2]).frz = .tup [intsA false (fitOf k vals).1, iA (fitOf k vals).2] := by
    show AV.tup [(intsA true (fitOf k vals).1).frz, _] = _
    rw [intsA_frz]
    rfl
  (repeat (first | (refine AOps.gN ?_; first | refine AOps.p (W.callF2 rfl rfl (fit_ps _ _) rfl hfr) rfl ?_) | refine WK ?_ | refine All.i fun X => ?_ | refine AllY.i fun Y => ?_))
  refine AWP.cond rfl (fun hb => ?_) (fun hb => ?_)
  · have hb : (fitOf k vals).2 ≠ 0 := by simpa using hb
    (repeat (first | refine WK ?_ | refine All.i fun X => ?_ | refine AllY.i fun Y => ?_))
    (refine AWP.ret ?_; (repeat (first | refine inB_r ?_ | refine andThen_r ?_)); refine retQ_r ?_)
    refine Ends.plain rfl rfl (by exact Sub.f) ⟨?_, rfl⟩
    simp [holdsOf, hb]
  have hb : (fitOf k vals).2 = 0 := by simpa using hb
  obtain ⟨hlen, h8⟩ := fitOf_len8 hb
  obtain ⟨fl, hfl⟩ : ∃ fl, fl = (fitOf k vals).1 := ⟨_, rfl⟩
  rw [← hfl] at hlen
  rw [show holdsOf k vals = decide (fl = vals) from by simp [holdsOf, hb, hfl]]
  rw [← hfl]
  clear hfr
  (repeat (first | refine AWP.loopR (fun i : Nat => ⟨[(1, intsA false vals), (5, intsA false fl), (17, iA (fl.map iA).length), (18, iA i)], Sf⟩) (fun i => i ≤ vals.length ∧ ∀ j (h : j < vals.length), j < i → fl[j]'(by omega) = vals[j]) (fun i => vals.length - i) 0 ⟨Nat.zero_le _, fun j h hj => absurd hj (by omega)⟩ ⟨.cons rfl (.cons rfl (.cons rfl (.cons rfl .nil))), by exact Sub.f⟩ ?_ | refine WK ?_ | refine All.i fun X => ?_ | refine AllY.i fun Y => ?_))
  rintro i ⟨hi, he⟩
  (repeat (first | refine WK ?_ | refine All.i fun X => ?_ | refine AllY.i fun Y => ?_))
  refine AWP.cond rfl (fun hc => ?_) (fun hc => ?_)
  · have h : i < fl.length := by rw [decide_eq_true_eq, List.length_map] at hc; omega
    have h' : i < vals.length := by omega
    (repeat (first | refine WK ?_ | refine All.i fun X => ?_ | refine AllY.i fun Y => ?_))
    (repeat refine WF ?_); refine AWP.region_run (by kernel_rfl) (by kernel_rfl) ?_; (repeat (first | (refine RGo.gN ?_; first | refine RGo.p (W.idxL rfl rfl rfl (map_at _ h)) rfl ?_ | refine RGo.p (W.idxL rfl rfl rfl (map_at _ h')) rfl ?_) | (refine RGo.gQ ?_; first | refine RGo.p (W.idxL rfl rfl rfl (map_at _ h)) rfl ?_ | refine RGo.p (W.idxL rfl rfl rfl (map_at _ h')) rfl ?_) | refine RK ?_ | refine RGo.nil (by kernel_rfl) ?_))
    (repeat (first | refine WK ?_ | refine All.i fun X => ?_ | refine AllY.i fun Y => ?_))
    refine AWP.cond rfl (fun hd => ?_) (fun hd => ?_)
    · have hd : fl[i] ≠ vals[i] := by simpa using hd
      (repeat (first | refine WK ?_ | refine All.i fun X => ?_ | refine AllY.i fun Y => ?_))
      (refine AWP.ret ?_; (repeat (first | refine inB_r ?_ | refine andThen_r ?_)); refine retQ_r ?_)
      refine Ends.plain rfl rfl (by exact Sub.f) ⟨?_, rfl⟩
      rw [decide_eq_false (fun e => hd (by subst e; rfl))]
    · have hd : fl[i] = vals[i] := by simpa using hd
      (repeat (first | refine WK ?_ | refine All.i fun X => ?_ | refine AllY.i fun Y => ?_))
      refine ⟨i + 1, ⟨by omega, fun j h1 h2 => ?_⟩, by omega, .cons rfl (.cons rfl (.cons rfl (.cons rfl .nil))), by exact Sub.f⟩
      by_cases e : j = i
      · subst e; exact hd
      · exact he j h1 (by omega)
  · have h : ¬ i < fl.length := by rw [decide_eq_false_iff_not, List.length_map] at hc; omega
    (repeat (first | refine WK ?_ | refine All.i fun X => ?_ | refine AllY.i fun Y => ?_))
    (refine AWP.ret ?_; (repeat (first | refine inB_r ?_ | refine andThen_r ?_)); refine retQ_r ?_)
    refine Ends.plain rfl rfl (by exact Sub.f) ⟨?_, rfl⟩
    rw [decide_eq_true (List.ext_getElem hlen fun j h1 h2 => he j h2 (by omega))]
end Go.Proofs.Ytanokoededdceaa

namespace Go.Proofs.Ytanokoededdceaa
set_option linter.unusedVariables false
theorem find_ps (l : List Kind) (name : List UInt8) (hl : l.length ≤ 1099511627776) : PS Try.prog 55 [kindsA false false l, sA name] (iA (findKind l name)) := by
  refine Spec.of (nt := 20) (res := [.tmp 4]) Try.func55 rfl (by kernel_rfl) rfl rfl rfl fun Sf => ?_
  (repeat (first | refine AWP.loopR (fun i : Nat => ⟨[(1, sA name), (7, kindsA false false l), (8, iA (l.map (kindA false)).length), (9, iA i)], Sf⟩) (fun i => i ≤ l.length ∧ ∀ j (h : j < l.length), j < i → l[j].name ≠ name) (fun i => l.length - i) 0 ⟨by omega, by omega⟩ ⟨.cons rfl (.cons rfl (.cons rfl (.cons rfl .nil))), List.Sublist.refl _⟩ ?_ | refine WK ?_ | refine All.i fun X => ?_ | refine AllY.i fun Y => ?_))
  rintro i ⟨hi, hn⟩
  (repeat (first | refine WK ?_ | refine All.i fun X => ?_ | refine AllY.i fun Y => ?_))
  refine AWP.cond rfl (fun hb => ?_) (fun hb => ?_)
  · have h : i < l.length := by simpa using hb
    (repeat (first | (refine AOps.gN ?_; first | refine AOps.p (W.idxL rfl rfl rfl (map_at _ h)) rfl ?_) | refine WK ?_ | refine All.i fun X => ?_ | refine AllY.i fun Y => ?_))
    refine AWP.cond rfl (fun hc => ?_) (fun hc => ?_)
    · have hc : l[i].name = name := by simpa using hc
      (repeat (first | refine WK ?_ | refine All.i fun X => ?_ | refine AllY.i fun Y => ?_))
      (refine AWP.ret ?_; (repeat (first | refine inB_r ?_ | refine andThen_r ?_)); refine retQ_r ?_)
      refine Ends.plain rfl rfl (by exact Sub.f) ⟨?_, rfl⟩
      rw [findKind_some h hc fun j hj => hn j (by omega) hj]
    · have hc : l[i].name ≠ name := by simpa using hc
      (repeat (first | refine WK ?_ | refine All.i fun X => ?_ | refine AllY.i fun Y => ?_))
      refine ⟨i + 1, ⟨by omega, fun j hj hji => ?_⟩, by omega, .cons rfl (.cons rfl (.cons rfl (.cons rfl .nil))), by exact Sub.f⟩
      by_cases e : j = i
      · subst e; exact hc
      · exact hn j hj (by omega)
  · have h : ¬ i < l.length := by simpa using hb
    (repeat (first | refine WK ?_ | refine All.i fun X => ?_ | refine AllY.i fun Y => ?_))
    (refine AWP.ret ?_; (repeat (first | refine inB_r ?_ | refine andThen_r ?_)); refine retQ_r ?_)
    refine Ends.plain rfl rfl (by exact Sub.f) ⟨?_, rfl⟩
    rw [findKind_none fun j hj => hn j hj (by omega)]
end Go.Proofs.Ytanokoededdceaa

namespace Go.Proofs.Ytanokoededdceaa
set_option linter.unusedVariables false
theorem check_ps (l : List Kind) : PS Try.prog 36 [kindsA false false l] (iA (checkErr l)) := by
  refine Spec.of (nt := 29) (res := [.tmp 2]) Try.func36 rfl (by kernel_rfl) rfl rfl rfl fun Sf => ?_
  (repeat (first | refine WK ?_ | refine All.i fun X => ?_ | refine AllY.i fun Y => ?_))
  refine AWP.cond rfl (fun hb => ?_) (fun hb => ?_)
  · (repeat (first | refine WK ?_ | refine All.i fun X => ?_ | refine AllY.i fun Y => ?_))
    (refine AWP.ret ?_; (repeat (first | refine inB_r ?_ | refine andThen_r ?_)); refine retQ_r ?_)
    refine Ends.plain rfl rfl (by exact Sub.f) ⟨?_, rfl⟩
    have hb : 16 < l.length := by rw [decide_eq_true_eq, List.length_map] at hb; omega
    rw [show checkErr l = 2 from by simp [checkErr, hb]]
  have hl : l.length ≤ 16 := by rw [decide_eq_false_iff_not, List.length_map] at hb; omega
  have e1 : checkErr l = kindsErr [] l := by simp [checkErr]; omega
  (repeat (first | refine AWP.loopR (fun i : Nat => ⟨[(0, kindsA false false l), (9, kindsA false false l), (10, iA (l.map (kindA false)).length), (11, iA i)], Sf⟩) (fun i => i ≤ l.length ∧ kindsErr [] l = kindsErr (l.take i) (l.drop i)) (fun i => l.length - i) 0 ⟨by omega, rfl⟩ ⟨.cons rfl (.cons rfl (.cons rfl (.cons rfl .nil))), by exact Sub.f⟩ ?_ | refine WK ?_ | refine All.i fun X => ?_ | refine AllY.i fun Y => ?_))
  rintro i ⟨hi, he⟩
  (repeat (first | refine WK ?_ | refine All.i fun X => ?_ | refine AllY.i fun Y => ?_))
  refine AWP.cond rfl (fun hb => ?_) (fun hb => ?_)
  · have h : i < l.length := by simpa using hb
    (repeat (first | (refine AOps.gN ?_; first | refine AOps.p (W.idxL rfl rfl rfl (map_at _ h)) rfl ?_ | refine AOps.p (W.call1 rfl (one_ps _) rfl) rfl ?_) | refine WK ?_ | refine All.i fun X => ?_ | refine AllY.i fun Y => ?_))
    refine AWP.cond rfl (fun hc => ?_) (fun hc => ?_)
    · have hc : oneErr l[i] ≠ 0 := by simpa using hc
      (repeat (first | refine WK ?_ | refine All.i fun X => ?_ | refine AllY.i fun Y => ?_))
      (refine AWP.ret ?_; (repeat (first | refine inB_r ?_ | refine andThen_r ?_)); refine retQ_r ?_)
      refine Ends.plain rfl rfl (by exact Sub.f) ⟨?_, rfl⟩
      rw [e1, he, kindsErr_at h, kindsErr_bad hc]
      rfl
    have hc : oneErr l[i] = 0 := by simpa using hc
    have hf : PS Try.prog 55 [.lst false 67 2 ((l.map (kindA false)).take i), sA l[i].name] (iA (findKind (l.take i) l[i].name)) := by
      have := find_ps (l.take i) l[i].name (by simp; omega)
      simpa only [kindsA, List.map_take] using this
    (repeat (first | refine WK ?_ | refine All.i fun X => ?_ | refine AllY.i fun Y => ?_))
    (repeat refine WF ?_); refine AWP.region_run (by kernel_rfl) (by kernel_rfl) ?_; (repeat (first | (refine RGo.gN ?_; first | refine RGo.p (W.hiL rfl rfl rfl (by simp; omega)) rfl ?_ | refine RGo.p (W.call2 rfl rfl hf rfl) rfl ?_) | (refine RGo.gQ ?_; first | refine RGo.p (W.hiL rfl rfl rfl (by simp; omega)) rfl ?_ | refine RGo.p (W.call2 rfl rfl hf rfl) rfl ?_) | refine RK ?_ | refine RGo.nil (by kernel_rfl) ?_))
    (repeat (first | refine WK ?_ | refine All.i fun X => ?_ | refine AllY.i fun Y => ?_))
    refine AWP.cond rfl (fun hd => ?_) (fun hd => ?_)
    · have hd : 0 ≤ findKind (l.take i) l[i].name := by simpa using hd
      (repeat (first | refine WK ?_ | refine All.i fun X => ?_ | refine AllY.i fun Y => ?_))
      (refine AWP.ret ?_; (repeat (first | refine inB_r ?_ | refine andThen_r ?_)); refine retQ_r ?_)
      refine Ends.plain rfl rfl (by exact Sub.f) ⟨?_, rfl⟩
      rw [e1, he, kindsErr_at h, kindsErr_twice hc hd]
    · have hd : findKind (l.take i) l[i].name < 0 := by simpa using hd
      (repeat (first | refine WK ?_ | refine All.i fun X => ?_ | refine AllY.i fun Y => ?_))
      refine ⟨i + 1, ⟨by omega, ?_⟩, by omega, .cons rfl (.cons rfl (.cons rfl (.cons rfl .nil))), by exact Sub.f⟩
      rw [he, kindsErr_at h, kindsErr_next hc hd, List.take_add_one, List.getElem?_eq_getElem h]
      rfl
  · have h : ¬ i < l.length := by simpa using hb
    (repeat (first | refine WK ?_ | refine All.i fun X => ?_ | refine AllY.i fun Y => ?_))
    (refine AWP.ret ?_; (repeat (first | refine inB_r ?_ | refine andThen_r ?_)); refine retQ_r ?_)
    refine Ends.plain rfl rfl (by exact Sub.f) ⟨?_, rfl⟩
    rw [e1, he, kindsErr_end (by omega)]
end Go.Proofs.Ytanokoededdceaa

namespace Go.Proofs.Ytanokoededdceaa
set_option linter.unusedSimpArgs false
set_option linter.unusedVariables false
/-- Are the components those of an item, all kinds above 'last'? -/
def heldFrom (ks : List Kind) : Int → List Comp → Bool
  | _, [] => true
  | last, c :: l => match ks[c.kind.toNat]? with
    | some k => decide (last < c.kind) && decide (c.kind < ks.length) && holdsOf k c.vals && heldFrom ks c.kind l
    | none => false
def heldOf (ks : List Kind) (l : List Comp) : Bool := heldFrom ks (-1) l
theorem heldFrom_at {ks : List Kind} {l : List Comp} {i : Nat} {last : Int} {k : Kind} {c : Comp} (h : i < l.length) (hc : l[i] = c) (hk : ks[c.kind.toNat]? = some k) : heldFrom ks last (l.drop i) = (decide (last < c.kind) && decide (c.kind < ks.length) && holdsOf k c.vals && heldFrom ks c.kind (l.drop (i + 1))) := by
  rw [List.drop_eq_getElem_cons h, heldFrom, hc, hk]
theorem heldFrom_no {ks : List Kind} {l : List Comp} {i : Nat} {last : Int} {c : Comp} (h : i < l.length) (hc : l[i] = c) (hn : c.kind ≤ last ∨ (ks.length : Int) ≤ c.kind) : heldFrom ks last (l.drop i) = false := by
  rw [List.drop_eq_getElem_cons h, heldFrom, hc]
  split
  · rcases hn with hn | hn
    · rw [decide_eq_false (by omega)]; rfl
    · rw [decide_eq_false (p := c.kind < _) (by omega)]; simp
  · rfl
/-- Are the items those of a world, all slots above 'last'? -/
def itemsFrom (ks : List Kind) (gens : List Int) : Int → List Item → Bool
  | _, [] => true
  | last, it :: l => match gens[it.ent.n.toNat]? with
    | some g => decide (last < it.ent.n) && decide (it.ent.n < gens.length) && decide (it.ent.gen = g) && !decide (it.ent.gen = 1073741824) && heldOf ks it.comps && itemsFrom ks gens it.ent.n l
    | none => false
theorem itemsFrom_at {ks : List Kind} {gens : List Int} {l : List Item} {i : Nat} {last : Int} {g : Int} {it : Item} (h : i < l.length) (hc : l[i] = it) (hk : gens[it.ent.n.toNat]? = some g) : itemsFrom ks gens last (l.drop i) = (decide (last < it.ent.n) && decide (it.ent.n < gens.length) && decide (it.ent.gen = g) && !decide (it.ent.gen = 1073741824) && heldOf ks it.comps && itemsFrom ks gens it.ent.n (l.drop (i + 1))) := by
  rw [List.drop_eq_getElem_cons h, itemsFrom, hc, hk]
theorem itemsFrom_no {ks : List Kind} {gens : List Int} {l : List Item} {i : Nat} {last : Int} {it : Item} (h : i < l.length) (hc : l[i] = it) (hn : it.ent.n ≤ last ∨ (gens.length : Int) ≤ it.ent.n) : itemsFrom ks gens last (l.drop i) = false := by
  rw [List.drop_eq_getElem_cons h, itemsFrom, hc]
  split
  · rcases hn with hn | hn
    · rw [decide_eq_false (by omega)]; rfl
    · rw [decide_eq_false (p := it.ent.n < _) (by omega)]; simp
  · rfl
def gensOk (l : List Int) : Bool := l.all fun g => decide (0 ≤ g) && decide (g ≤ 1073741824)
/-- What world.Check returns. -/
def wdErr (w : Wd) : Int :=
  if checkErr w.kinds ≠ 0 then checkErr w.kinds
  else if 256 < w.gens.length ∨ w.gens.length < w.items.length then 2
  else if gensOk w.gens = false then 3
  else if itemsFrom w.kinds w.gens (-1) w.items = false then 3 else 0
end Go.Proofs.Ytanokoededdceaa

namespace Go.Proofs.Ytanokoededdceaa
set_option linter.unusedVariables false
theorem held_ps (ks : List Kind) (l : List Comp) (hl : l.length ≤ 1099511627776) : PS Try.prog 48 [kindsA false false ks, compsA false false l] (bA (heldOf ks l)) := by
  refine Spec.of (nt := 39) (res := [.tmp 4]) Try.func48 rfl (by kernel_rfl) rfl rfl rfl fun Sf => ?_
  have hlm : (l.map (compA false)).length = l.length := List.length_map _
  (repeat (first | refine WK ?_ | refine All.i fun X => ?_ | refine AllY.i fun Y => ?_))
  refine AWP.lp2 (fun (i : Nat) (last : Int) => ⟨[(0, kindsA false false ks), (5, iA last), (8, compsA false false l), (9, iA (l.map (compA false)).length), (10, iA i)], Sf⟩) (fun i last => i ≤ l.length ∧ -1 ≤ last ∧ heldFrom ks last (l.drop i) = heldOf ks l) (fun i _ => l.length - i) 0 (-1) ⟨Nat.zero_le _, by omega, rfl⟩ ?_
  rintro i last ⟨hi, hla, he⟩
  (repeat (first | refine WK ?_ | refine All.i fun X => ?_ | refine AllY.i fun Y => ?_))
  refine AWP.cond rfl (fun hc => ?_) (fun hc => ?_)
  · have h : i < l.length := by rw [decide_eq_true_eq, hlm] at hc; omega
    obtain ⟨⟨ck, cv⟩, hcc⟩ : ∃ c, l[i] = c := ⟨_, rfl⟩
    have hat : (l.map (compA false))[i]? = some (compA false ⟨ck, cv⟩) := by rw [List.getElem?_map, List.getElem?_eq_getElem h, hcc]; rfl
    (repeat (first | refine WK ?_ | refine All.i fun X => ?_ | refine AllY.i fun Y => ?_))
    rcases Bool.eq_false_or_eq_true (decide (ck ≤ last)) with g1 | g1
    · (repeat refine WF ?_); refine AWP.region_run (by kernel_rfl) (by kernel_rfl) ?_; (repeat (first | (refine RGo.gQ ?_; first | refine RGo.goNU ?_ | refine RGo.goNV ?_) | refine RK ?_ | refine RGo.nil (by kernel_rfl) ?_))
      refine AWP.cond_t rfl (by first | rfl | assumption) ?_
      (repeat (first | refine WK ?_ | refine All.i fun X => ?_ | refine AllY.i fun Y => ?_))
      (refine AWP.ret ?_; (repeat (first | refine inB_r ?_ | refine andThen_r ?_)); refine retQ_r ?_); refine Ends.ps ?_
      rw [← he, heldFrom_no h hcc (.inl (by simpa using g1))]
    · obtain ⟨n, rfl⟩ : ∃ n : Nat, ck = n := ⟨ck.toNat, by rw [decide_eq_false_iff_not] at g1; omega⟩
      rcases Bool.eq_false_or_eq_true (decide (((ks.map (kindA false)).length : Int) ≤ n)) with g2 | g2
      · (repeat refine WF ?_); refine AWP.region_run (by kernel_rfl) (by kernel_rfl) ?_; (repeat (first | (refine RGo.gQ ?_; first | refine RGo.goNU ?_ | refine RGo.goNV ?_) | refine RK ?_ | refine RGo.nil (by kernel_rfl) ?_))
        refine AWP.cond_t rfl (by first | rfl | assumption) ?_
        (repeat (first | refine WK ?_ | refine All.i fun X => ?_ | refine AllY.i fun Y => ?_))
        (refine AWP.ret ?_; (repeat (first | refine inB_r ?_ | refine andThen_r ?_)); refine retQ_r ?_); refine Ends.ps ?_
        rw [← he, heldFrom_no h hcc (.inr (by rw [decide_eq_true_eq, List.length_map] at g2; exact g2))]
      · have hkl : n < ks.length := by rw [decide_eq_false_iff_not, List.length_map] at g2; omega
        obtain ⟨k, hk⟩ : ∃ k, ks[n] = k := ⟨_, rfl⟩
        have hka : ks[n]? = some k := by rw [List.getElem?_eq_getElem hkl, hk]
        have hat2 : (ks.map (kindA false))[n]? = some (kindA false k) := by rw [List.getElem?_map, hka]; rfl
        have hst := heldFrom_at (last := last) (k := k) h hcc hka
        dsimp only at hst
        rw [decide_eq_true (by rw [decide_eq_false_iff_not] at g1; omega), decide_eq_true (p := (n : Int) < _) (by omega), Bool.true_and, Bool.true_and, he] at hst
        have hh := holds_ps k cv
        obtain ⟨b, hb⟩ : ∃ b, holdsOf k cv = b := ⟨_, rfl⟩
        rw [hb] at hst hh
        cases b
        · (repeat refine WF ?_); refine AWP.region_run (by kernel_rfl) (by kernel_rfl) ?_; (repeat (first | (refine RGo.gN ?_; first | (refine RGo.g_callf ?_; first | refine RGo.c2 (h := (hh ..)) (k := ?_))) | (refine RGo.gQ ?_; first | (refine RGo.g_callf ?_; first | refine RGo.c2 (h := (hh ..)) (k := ?_))) | refine RK ?_ | refine RGo.nil (by kernel_rfl) ?_))
          refine AWP.cond_t rfl (by first | rfl | assumption) ?_
          (repeat (first | refine WK ?_ | refine All.i fun X => ?_ | refine AllY.i fun Y => ?_))
          (refine AWP.ret ?_; (repeat (first | refine inB_r ?_ | refine andThen_r ?_)); refine retQ_r ?_); refine Ends.ps ?_
          rw [hst]; rfl
        · (repeat refine WF ?_); refine AWP.region_run (by kernel_rfl) (by kernel_rfl) ?_; (repeat (first | (refine RGo.gN ?_; first | (refine RGo.g_callf ?_; first | refine RGo.c2 (h := (hh ..)) (k := ?_))) | (refine RGo.gQ ?_; first | (refine RGo.g_callf ?_; first | refine RGo.c2 (h := (hh ..)) (k := ?_))) | refine RK ?_ | refine RGo.nil (by kernel_rfl) ?_))
          refine AWP.cond_f rfl (by first | rfl | assumption) ?_
          (repeat (first | refine WK ?_ | refine All.i fun X => ?_ | refine AllY.i fun Y => ?_))
          refine lp_next2 (i + 1) n ⟨h, by omega, hst.symm⟩
  · have h : i = l.length := by rw [decide_eq_false_iff_not, hlm] at hc; omega
    subst h
    (repeat (first | refine WK ?_ | refine All.i fun X => ?_ | refine AllY.i fun Y => ?_))
    (refine AWP.ret ?_; (repeat (first | refine inB_r ?_ | refine andThen_r ?_)); refine retQ_r ?_); refine Ends.ps ?_
    rw [← he, List.drop_length]; rfl
set_option maxHeartbeats 2000000 in
theorem check_ps' (w : Wd) (hg : w.gens.length ≤ 1099511627776) (hi : w.items.length ≤ 1099511627776) (hc : ∀ it ∈ w.items, it.comps.length ≤ 1099511627776) : PS Try.prog 27 [wdA false w] (iA (wdErr w)) := by
  have hck := check_ps w.kinds
  obtain ⟨ke, hke⟩ : ∃ ke, checkErr w.kinds = ke := ⟨_, rfl⟩
  obtain ⟨we, hwe⟩ : ∃ we, wdErr w = we := ⟨_, rfl⟩
  rw [hwe]
  unfold wdErr at hwe
  rw [hke] at hck hwe
  obtain ⟨ks, gens, items⟩ := w
  dsimp only at hwe hg hi hc hck hke
  refine Spec.of (nt := 94) (res := [.tmp 2]) Try.func27 rfl (by kernel_rfl) rfl rfl rfl fun Sf => ?_
  have hgm : (gens.map iA).length = gens.length := List.length_map _
  have him : (items.map (itemA false)).length = items.length := List.length_map _
  (repeat refine WF ?_); refine AWP.region ?_; (repeat (first | (refine AOps.gN ?_; first | (refine AOps.g_box ?_; refine AOps.goB ?_)) | refine WO ?_ | refine All.i fun X => ?_ | refine AllY.i fun Y => ?_)); refine AOps.nil ?_; (repeat refine WN ?_)
  (repeat refine WF ?_); refine AWP.region ?_; (repeat (first | (refine AOps.gN ?_; first | (refine AOps.g_callf ?_; first | refine AOps.c1 (h := (hck ..)) (k := ?_))) | refine WO ?_ | refine All.i fun X => ?_ | refine AllY.i fun Y => ?_)); refine AOps.nil ?_; (repeat refine WN ?_)
  (repeat (first | refine WK ?_ | refine All.i fun X => ?_ | refine AllY.i fun Y => ?_))
  refine AWP.cond rfl (fun hd => ?_) (fun hd => ?_)
  · have hd : ke ≠ 0 := by simpa using hd
    (repeat (first | refine WK ?_ | refine All.i fun X => ?_ | refine AllY.i fun Y => ?_))
    (refine AWP.ret ?_; (repeat (first | refine inB_r ?_ | refine andThen_r ?_)); refine retQ_r ?_); refine Ends.ps ?_
    rw [← hwe, if_pos hd]
  have hd : ke = 0 := by simpa using hd
  rw [if_neg (by simp [hd])] at hwe
  rcases Bool.eq_false_or_eq_true (decide (256 < ((gens.map iA).length : Int))) with g1 | g1
  · (repeat (first | refine WK ?_ | refine All.i fun X => ?_ | refine AllY.i fun Y => ?_))
    refine AWP.cond_t rfl (by first | rfl | assumption) ?_
    (repeat (first | refine WK ?_ | refine All.i fun X => ?_ | refine AllY.i fun Y => ?_))
    (refine AWP.ret ?_; (repeat (first | refine inB_r ?_ | refine andThen_r ?_)); refine retQ_r ?_); refine Ends.ps ?_
    rw [← hwe, if_pos (.inl (by rw [decide_eq_true_eq, hgm] at g1; omega))]
  rcases Bool.eq_false_or_eq_true (decide (((gens.map iA).length : Int) < (items.map (itemA false)).length)) with g2 | g2
  · (repeat (first | refine WK ?_ | refine All.i fun X => ?_ | refine AllY.i fun Y => ?_))
    refine AWP.cond_t rfl (by first | rfl | assumption) ?_
    (repeat (first | refine WK ?_ | refine All.i fun X => ?_ | refine AllY.i fun Y => ?_))
    (refine AWP.ret ?_; (repeat (first | refine inB_r ?_ | refine andThen_r ?_)); refine retQ_r ?_); refine Ends.ps ?_
    rw [← hwe, if_pos (.inr (by rw [decide_eq_true_eq, hgm, him] at g2; omega))]
  (repeat (first | refine WK ?_ | refine All.i fun X => ?_ | refine AllY.i fun Y => ?_))
  refine AWP.cond_f rfl (by first | rfl | assumption) ?_
  rw [if_neg (by rw [decide_eq_false_iff_not, hgm] at g1; rw [decide_eq_false_iff_not, hgm, him] at g2; omega)] at hwe
  (repeat (first | refine WK ?_ | refine All.i fun X => ?_ | refine AllY.i fun Y => ?_))
  refine AWP.lp (fun i : Nat => ⟨[(1, .fp (wdA false ⟨ks, gens, items⟩).cells), (29, intsA false gens), (30, iA (gens.map iA).length), (31, iA i)], Sf⟩) (fun i => i ≤ gens.length ∧ ∀ j (h : j < gens.length), j < i → 0 ≤ gens[j] ∧ gens[j] ≤ 1073741824) (fun i => gens.length - i) 0 ⟨Nat.zero_le _, fun j h hj => absurd hj (by omega)⟩ ?_
  rintro i ⟨hil, hgo⟩
  (repeat (first | refine WK ?_ | refine All.i fun X => ?_ | refine AllY.i fun Y => ?_))
  refine AWP.cond rfl (fun he => ?_) (fun he => ?_)
  · have h : i < gens.length := by rw [decide_eq_true_eq, hgm] at he; omega
    obtain ⟨x, hx⟩ : ∃ x, gens[i] = x := ⟨_, rfl⟩
    have hat : (gens.map iA)[i]? = some (iA x) := by rw [List.getElem?_map, List.getElem?_eq_getElem h, hx]; rfl
    have hbad : ¬ (0 ≤ x ∧ x ≤ 1073741824) → gensOk gens = false := fun hn => by
      unfold gensOk
      rw [List.all_eq_false]
      refine ⟨x, hx ▸ List.getElem_mem h, ?_⟩
      simp only [Bool.and_eq_true, decide_eq_true_eq]
      exact hn
    (repeat (first | refine WK ?_ | refine All.i fun X => ?_ | refine AllY.i fun Y => ?_))
    refine AWP.cond rfl (fun hf => ?_) (fun hf => ?_)
    · have hf : ¬ (0 ≤ x ∧ x ≤ 1073741824) := by simp at hf; omega
      (repeat (first | refine WK ?_ | refine All.i fun X => ?_ | refine AllY.i fun Y => ?_))
      (refine AWP.ret ?_; (repeat (first | refine inB_r ?_ | refine andThen_r ?_)); refine retQ_r ?_); refine Ends.ps ?_
      rw [← hwe, if_pos (hbad hf)]
    · have hf : 0 ≤ x ∧ x ≤ 1073741824 := by simp at hf; omega
      (repeat (first | refine WK ?_ | refine All.i fun X => ?_ | refine AllY.i fun Y => ?_))
      refine lp_next (i + 1) ⟨h, fun j h1 h2 => ?_⟩
      by_cases e : j = i
      · subst e; rw [hx]; exact hf
      · exact hgo j h1 (by omega)
  have hgok : gensOk gens = true := by
    have h : i = gens.length := by rw [decide_eq_false_iff_not, hgm] at he; omega
    unfold gensOk
    rw [List.all_eq_true]
    intro x hx
    obtain ⟨j, hj, rfl⟩ := List.getElem_of_mem hx
    simp only [Bool.and_eq_true, decide_eq_true_eq]
    exact hgo j hj (by omega)
  rw [if_neg (by simp [hgok])] at hwe
  (repeat (first | refine WK ?_ | refine All.i fun X => ?_ | refine AllY.i fun Y => ?_))
  refine AWP.lp2 (fun (i : Nat) (last : Int) => ⟨[(1, .fp (wdA false ⟨ks, gens, items⟩).cells), (6, iA last), (43, itemsA false false items), (44, iA (items.map (itemA false)).length), (45, iA i)], Sf⟩) (fun i last => i ≤ items.length ∧ -1 ≤ last ∧ itemsFrom ks gens last (items.drop i) = itemsFrom ks gens (-1) items) (fun i _ => items.length - i) 0 (-1) ⟨Nat.zero_le _, by omega, rfl⟩ ?_
  clear hil hgo he i
  rintro i last ⟨hil, hla, he⟩
  (repeat (first | refine WK ?_ | refine All.i fun X => ?_ | refine AllY.i fun Y => ?_))
  refine AWP.cond rfl (fun hd' => ?_) (fun hd' => ?_)
  · have h : i < items.length := by rw [decide_eq_true_eq, him] at hd'; omega
    obtain ⟨⟨⟨en, eg⟩, cs⟩, hit⟩ : ∃ it, items[i] = it := ⟨_, rfl⟩
    have hat : (items.map (itemA false))[i]? = some (itemA false ⟨⟨en, eg⟩, cs⟩) := by rw [List.getElem?_map, List.getElem?_eq_getElem h, hit]; rfl
    have hcl := hc _ (hit ▸ List.getElem_mem h)
    dsimp only at hcl
    (repeat (first | refine WK ?_ | refine All.i fun X => ?_ | refine AllY.i fun Y => ?_))
    rcases Bool.eq_false_or_eq_true (decide (en ≤ last)) with q1 | q1
    · (repeat refine WF ?_); refine AWP.region_run (by kernel_rfl) (by kernel_rfl) ?_; (repeat (first | (refine RGo.gQ ?_; first | refine RGo.goNU ?_ | refine RGo.goNV ?_) | refine RK ?_ | refine RGo.nil (by kernel_rfl) ?_))
      refine AWP.cond_t rfl (by first | rfl | assumption) ?_
      (repeat (first | refine WK ?_ | refine All.i fun X => ?_ | refine AllY.i fun Y => ?_))
      (refine AWP.ret ?_; (repeat (first | refine inB_r ?_ | refine andThen_r ?_)); refine retQ_r ?_); refine Ends.ps ?_
      rw [← hwe, if_pos (by rw [← he, itemsFrom_no h hit (.inl (by simpa using q1))])]
    obtain ⟨n, rfl⟩ : ∃ n : Nat, en = n := ⟨en.toNat, by rw [decide_eq_false_iff_not] at q1; omega⟩
    rcases Bool.eq_false_or_eq_true (decide (((gens.map iA).length : Int) ≤ n)) with q2 | q2
    · (repeat refine WF ?_); refine AWP.region_run (by kernel_rfl) (by kernel_rfl) ?_; (repeat (first | (refine RGo.gQ ?_; first | refine RGo.goNU ?_ | refine RGo.goNV ?_) | refine RK ?_ | refine RGo.nil (by kernel_rfl) ?_))
      refine AWP.cond_t rfl (by first | rfl | assumption) ?_
      (repeat (first | refine WK ?_ | refine All.i fun X => ?_ | refine AllY.i fun Y => ?_))
      (refine AWP.ret ?_; (repeat (first | refine inB_r ?_ | refine andThen_r ?_)); refine retQ_r ?_); refine Ends.ps ?_
      rw [← hwe, if_pos (by rw [← he, itemsFrom_no h hit (.inr (by rw [decide_eq_true_eq, hgm] at q2; exact q2))])]
    have hkl : n < gens.length := by rw [decide_eq_false_iff_not, hgm] at q2; omega
    obtain ⟨g, hg'⟩ : ∃ g, gens[n] = g := ⟨_, rfl⟩
    have hga : gens[n]? = some g := by rw [List.getElem?_eq_getElem hkl, hg']
    have hat2 : (gens.map iA)[n]? = some (iA g) := by rw [List.getElem?_map, hga]; rfl
    have hst := itemsFrom_at (ks := ks) (last := last) (g := g) h hit hga
    dsimp only at hst
    rw [decide_eq_true (by rw [decide_eq_false_iff_not] at q1; omega), decide_eq_true (p := (n : Int) < _) (by omega), Bool.true_and, Bool.true_and, he] at hst
    rcases Bool.eq_false_or_eq_true (decide (eg ≠ g)) with q3 | q3
    · (repeat refine WF ?_); refine AWP.region_run (by kernel_rfl) (by kernel_rfl) ?_; (repeat (first | (refine RGo.gQ ?_; first | refine RGo.goNU ?_ | refine RGo.goNV ?_) | refine RK ?_ | refine RGo.nil (by kernel_rfl) ?_))
      refine AWP.cond_t rfl (by first | rfl | assumption) ?_
      (repeat (first | refine WK ?_ | refine All.i fun X => ?_ | refine AllY.i fun Y => ?_))
      (refine AWP.ret ?_; (repeat (first | refine inB_r ?_ | refine andThen_r ?_)); refine retQ_r ?_); refine Ends.ps ?_
      rw [← hwe, if_pos (by rw [hst, decide_eq_false (by simpa using q3)]; rfl)]
    rcases Bool.eq_false_or_eq_true (decide (eg = 1073741824)) with q4 | q4
    · (repeat refine WF ?_); refine AWP.region_run (by kernel_rfl) (by kernel_rfl) ?_; (repeat (first | (refine RGo.gQ ?_; first | refine RGo.goNU ?_ | refine RGo.goNV ?_) | refine RK ?_ | refine RGo.nil (by kernel_rfl) ?_))
      refine AWP.cond_t rfl (by first | rfl | assumption) ?_
      (repeat (first | refine WK ?_ | refine All.i fun X => ?_ | refine AllY.i fun Y => ?_))
      (refine AWP.ret ?_; (repeat (first | refine inB_r ?_ | refine andThen_r ?_)); refine retQ_r ?_); refine Ends.ps ?_
      rw [← hwe, if_pos (by rw [hst, q4]; simp)]
    have hh := held_ps ks cs hcl
    obtain ⟨b, hb⟩ : ∃ b, heldOf ks cs = b := ⟨_, rfl⟩
    rw [decide_eq_true (p := eg = g) (by simpa using q3), q4, hb, Bool.true_and, Bool.not_false, Bool.true_and] at hst
    rw [hb] at hh
    cases b
    · (repeat refine WF ?_); refine AWP.region_run (by kernel_rfl) (by kernel_rfl) ?_; (repeat (first | (refine RGo.gN ?_; first | (refine RGo.g_callf ?_; first | refine RGo.c2 (h := (hh ..)) (k := ?_))) | (refine RGo.gQ ?_; first | (refine RGo.g_callf ?_; first | refine RGo.c2 (h := (hh ..)) (k := ?_))) | refine RK ?_ | refine RGo.nil (by kernel_rfl) ?_))
      refine AWP.cond_t rfl (by first | rfl | assumption) ?_
      (repeat (first | refine WK ?_ | refine All.i fun X => ?_ | refine AllY.i fun Y => ?_))
      (refine AWP.ret ?_; (repeat (first | refine inB_r ?_ | refine andThen_r ?_)); refine retQ_r ?_); refine Ends.ps ?_
      rw [← hwe, if_pos (by rw [hst]; rfl)]
    · (repeat refine WF ?_); refine AWP.region_run (by kernel_rfl) (by kernel_rfl) ?_; (repeat (first | (refine RGo.gN ?_; first | (refine RGo.g_callf ?_; first | refine RGo.c2 (h := (hh ..)) (k := ?_))) | (refine RGo.gQ ?_; first | (refine RGo.g_callf ?_; first | refine RGo.c2 (h := (hh ..)) (k := ?_))) | refine RK ?_ | refine RGo.nil (by kernel_rfl) ?_))
      refine AWP.cond_f rfl (by first | rfl | assumption) ?_
      (repeat (first | refine WK ?_ | refine All.i fun X => ?_ | refine AllY.i fun Y => ?_))
      refine lp_next2 (i + 1) n ⟨h, by omega, hst.symm⟩
  · have h : i = items.length := by rw [decide_eq_false_iff_not, him] at hd'; omega
    (repeat (first | refine WK ?_ | refine All.i fun X => ?_ | refine AllY.i fun Y => ?_))
    (refine AWP.ret ?_; (repeat (first | refine inB_r ?_ | refine andThen_r ?_)); refine retQ_r ?_); refine Ends.ps ?_
    rw [← hwe, if_neg (by rw [← he, h, List.drop_length]; simp [itemsFrom])]
end Go.Proofs.Ytanokoededdceaa

namespace Go.Proofs.Ytanokoededdceaa
set_option linter.unusedVariables false
theorem isNaN_ps (a : Int) : PS Try.prog 62 [iA a] (bA false) := by
  refine Spec.of (nt := 6) (res := [.tmp 2]) Try.func62 rfl (by kernel_rfl) rfl rfl rfl fun Sf => ?_
  (repeat (first | refine WK ?_ | refine All.i fun X => ?_ | refine AllY.i fun Y => ?_))
  (refine AWP.ret ?_; (repeat (first | refine inB_r ?_ | refine andThen_r ?_)); refine retQ_r ?_); refine Ends.ps ?_
  have : decide (a ≠ a) = false := decide_eq_false (by simp)
  rw [this]
def cmpI (a b : Int) : Int := if a < b then -1 else if b < a then 1 else 0
theorem compare_ps (a b : Int) : PS Try.prog 43 [iA a, iA b] (iA (cmpI a b)) := by
  refine Spec.of (nt := 20) (res := [.tmp 4]) Try.func43 rfl (by kernel_rfl) rfl rfl rfl fun Sf => ?_
  (repeat (first | (refine AOps.gN ?_; first | (refine AOps.g_callf ?_; first | refine AOps.c1 (h := (isNaN_ps a)) (k := ?_) | refine AOps.c1 (h := (isNaN_ps b)) (k := ?_))) | refine WK ?_ | refine All.i fun X => ?_ | refine AllY.i fun Y => ?_))
  refine AWP.cond_f rfl rfl ?_
  (repeat (first | refine WK ?_ | refine All.i fun X => ?_ | refine AllY.i fun Y => ?_))
  refine AWP.cond_f rfl rfl ?_
  (repeat (first | refine WK ?_ | refine All.i fun X => ?_ | refine AllY.i fun Y => ?_))
  refine AWP.cond rfl (fun h => ?_) (fun h => ?_)
  · have h : a < b := by simpa using h
    (repeat (first | refine WK ?_ | refine All.i fun X => ?_ | refine AllY.i fun Y => ?_))
    (refine AWP.ret ?_; (repeat (first | refine inB_r ?_ | refine andThen_r ?_)); refine retQ_r ?_); refine Ends.ps ?_
    rw [cmpI, if_pos h]
  · have h : ¬ a < b := by simpa using h
    (repeat (first | refine WK ?_ | refine All.i fun X => ?_ | refine AllY.i fun Y => ?_))
    refine AWP.cond rfl (fun h2 => ?_) (fun h2 => ?_)
    · have h2 : b < a := by simpa using h2
      (repeat (first | refine WK ?_ | refine All.i fun X => ?_ | refine AllY.i fun Y => ?_))
      (refine AWP.ret ?_; (repeat (first | refine inB_r ?_ | refine andThen_r ?_)); refine retQ_r ?_); refine Ends.ps ?_
      rw [cmpI, if_neg h, if_pos h2]
    · have h2 : ¬ b < a := by simpa using h2
      (repeat (first | refine WK ?_ | refine All.i fun X => ?_ | refine AllY.i fun Y => ?_))
      (refine AWP.ret ?_; (repeat (first | refine inB_r ?_ | refine andThen_r ?_)); refine retQ_r ?_); refine Ends.ps ?_
      rw [cmpI, if_neg h, if_neg h2]
end Go.Proofs.Ytanokoededdceaa

namespace Go.Proofs.Ytanokoededdceaa
set_option linter.unusedVariables false
def idxF {α : Type} (l : List α) (p : α → Bool) : Int := match l.findIdx? p with
  | some i => i
  | none => -1
theorem idxF_none {α : Type} {l : List α} {p : α → Bool} (h : ∀ j (hj : j < l.length), p l[j] = false) : idxF l p = -1 := by
  have : l.findIdx? p = none := by
    rw [List.findIdx?_eq_none_iff]
    intro x hx
    obtain ⟨j, hj, rfl⟩ := List.getElem_of_mem hx
    exact h j hj
  simp [idxF, this]
theorem idxF_some {α : Type} {l : List α} {p : α → Bool} {i : Nat} (hi : i < l.length) (e : p l[i] = true) (h : ∀ j (hj : j < i), p (l[j]'(by omega)) = false) : idxF l p = i := by
  have : l.findIdx? p = some i := by
    rw [List.findIdx?_eq_some_iff_getElem]
    exact ⟨hi, e, fun j hj => by simpa using h j hj⟩
  simp [idxF, this]
theorem idxF_any {α : Type} (l : List α) (p : α → Bool) : decide ((0 : Int) ≤ idxF l p) = l.any p := by
  unfold idxF
  cases h : l.findIdx? p with
  | none =>
    rw [List.findIdx?_eq_none_iff] at h
    have : l.any p = false := List.any_eq_false.2 fun x hx => by rw [h x hx]; simp
    rw [this]
    rfl
  | some i =>
    obtain ⟨hi, e, _⟩ := List.findIdx?_eq_some_iff_getElem.1 h
    have : l.any p = true := List.any_eq_true.2 ⟨_, List.getElem_mem hi, e⟩
    rw [this]
    simp
end Go.Proofs.Ytanokoededdceaa

namespace Go.Proofs.Ytanokoededdceaa
set_option linter.unusedVariables false
theorem indexFuncT_ps (l : List Item) (f : FuncId) (cap : List AV) (p : Item → Bool) (hs : st1s cap = true) (hl : l.length ≤ 4611686018427387904) (hf : ∀ x ∈ l, PS Try.prog f ((itemA false) x :: cap) (bA (p x))) : PS Try.prog 49 [.lst false 34 3 (l.map (itemA false)), .fn f cap] (iA (idxF l p)) := by
  refine Spec.of (nt := 19) (res := [.tmp 4]) Try.func49 rfl (by kernel_rfl) rfl rfl rfl fun Sf => ?_
  (repeat (first | refine WK ?_ | refine All.i fun X => ?_ | refine AllY.i fun Y => ?_))
  refine AWP.lp (fun i : Nat => ⟨[(0, .lst false 34 3 (l.map (itemA false))), (1, .fn f cap), (7, iA (l.map (itemA false)).length), (8, iA i)], Sf⟩) (fun i => i ≤ l.length ∧ ∀ j (h : j < l.length), j < i → p l[j] = false) (fun i => l.length - i) 0 ⟨Nat.zero_le _, fun j h hj => absurd hj (by omega)⟩ ?_
  rintro i ⟨hi, he⟩
  (repeat (first | refine WK ?_ | refine All.i fun X => ?_ | refine AllY.i fun Y => ?_))
  refine AWP.cond rfl (fun hc => ?_) (fun hc => ?_)
  · have h : i < l.length := by simpa using hc
    (repeat (first | (refine AOps.gN ?_; first | (refine AOps.g_callv ?_; first | refine AOps.k1 (h := (hf _ (List.getElem_mem h))) (k := ?_))) | refine WK ?_ | refine All.i fun X => ?_ | refine AllY.i fun Y => ?_))
    refine AWP.cond rfl (fun hd => ?_) (fun hd => ?_)
    · (repeat (first | refine WK ?_ | refine All.i fun X => ?_ | refine AllY.i fun Y => ?_))
      (refine AWP.ret ?_; (repeat (first | refine inB_r ?_ | refine andThen_r ?_)); refine retQ_r ?_); refine Ends.ps ?_
      rw [idxF_some h hd fun j hj => he j (by omega) hj]
    · (repeat (first | refine WK ?_ | refine All.i fun X => ?_ | refine AllY.i fun Y => ?_))
      refine lp_next (i + 1) ⟨h, fun j h1 h2 => ?_⟩
      by_cases e : j = i
      · subst e; exact hd
      · exact he j h1 (by omega)
  · have h : ¬ i < l.length := by simpa using hc
    (repeat (first | refine WK ?_ | refine All.i fun X => ?_ | refine AllY.i fun Y => ?_))
    (refine AWP.ret ?_; (repeat (first | refine inB_r ?_ | refine andThen_r ?_)); refine retQ_r ?_); refine Ends.ps ?_
    rw [idxF_none fun j hj => he j hj (by omega)]
end Go.Proofs.Ytanokoededdceaa

namespace Go.Proofs.Ytanokoededdceaa
set_option linter.unusedVariables false
/-- The smaller ones come first. -/
def MonoL {α : Type} (g : α → Int) (l : List α) : Prop := ∀ (a b : Nat) (x y : α), a ≤ b → l[a]? = some x → l[b]? = some y → g y < 0 → g x < 0
/-- All ahead of i are smaller, none from j on. -/
def Spl {α : Type} (g : α → Int) (l : List α) (i j : Nat) : Prop := (∀ (k : Nat) (x : α), k < i → l[k]? = some x → g x < 0) ∧ ∀ (k : Nat) (x : α), j ≤ k → l[k]? = some x → ¬ g x < 0
/-- What a search gives: a place, and whether it is there. -/
structure Found {α : Type} (g : α → Int) (l : List α) (r : Nat × Bool) : Prop where
  le : r.1 ≤ l.length
  eq : r.2 = true ↔ ∃ x, l[r.1]? = some x ∧ g x = 0
  mono : MonoL g l → Spl g l r.1 r.1
theorem Spl.lo {α : Type} {g : α → Int} {l : List α} {i j m : Nat} {y : α} (hM : MonoL g l) (h : Spl g l i j) (hy : l[m]? = some y) (hg : g y < 0) : Spl g l (m + 1) j :=
  ⟨fun k x hk hx => hM k m x y (by omega) hx hy hg, h.2⟩
theorem Spl.hi {α : Type} {g : α → Int} {l : List α} {i j m : Nat} {y : α} (hM : MonoL g l) (h : Spl g l i j) (hy : l[m]? = some y) (hg : ¬ g y < 0) : Spl g l i m :=
  ⟨h.1, fun k x hk hx hx0 => hg (hM m k y x hk hy hx hx0)⟩
end Go.Proofs.Ytanokoededdceaa

namespace Go.Proofs.Ytanokoededdceaa
set_option linter.unusedVariables false
theorem find1_ps (x : Item) (e : Ent) : PS Try.prog 50 [itemA false x, .fp (entA e).cells] (bA (decide (x.ent = e))) := by
  have hE := entEql x.ent.n x.ent.gen e.n e.gen
  rw [show (decide (x.ent.n = e.n) && decide (x.ent.gen = e.gen)) = sameE x.ent e from rfl, sameE_dec] at hE
  refine Spec.of (nt := 8) (res := [.tmp 3]) Try.func50 rfl (by kernel_rfl) rfl rfl rfl fun Sf => ?_
  (repeat (first | (refine AOps.gN ?_; first | (refine AOps.g_box ?_; refine AOps.goB ?_) | refine AOps.p (W.eqP _ _ (by kernel_rfl) hE rfl rfl) rfl ?_) | refine WK ?_ | refine All.i fun X => ?_ | refine AllY.i fun Y => ?_))
  (refine AWP.ret ?_; (repeat (first | refine inB_r ?_ | refine andThen_r ?_)); refine retQ_r ?_); refine Ends.ps ?_
  rfl
/-- The index of an entity's item. -/
def findE (l : List Item) (e : Ent) : Int := idxF l fun x => decide (x.ent = e)
theorem find_ps' (w : Wd) (e : Ent) (hl : w.items.length ≤ 4611686018427387904) : PS Try.prog 28 [wdA false w, entA e] (iA (findE w.items e)) := by
  have h := indexFuncT_ps w.items 50 [.fp (entA e).cells] (fun x => decide (x.ent = e)) rfl hl (fun x _ => find1_ps x e)
  refine Spec.of (nt := 9) (res := [.tmp 4]) Try.func28 rfl (by kernel_rfl) rfl rfl rfl fun Sf => ?_
  (repeat refine WF ?_); refine AWP.region ?_; (repeat (first | (refine AOps.gN ?_; first | (refine AOps.g_box ?_; refine AOps.goB ?_)) | refine WO ?_ | refine All.i fun X => ?_ | refine AllY.i fun Y => ?_)); refine AOps.nil ?_; (repeat refine WN ?_)
  (repeat (first | (refine AOps.gN ?_; first | (refine AOps.g_callf ?_; first | refine AOps.c2 (h := (h ..)) (k := ?_))) | refine WK ?_ | refine All.i fun X => ?_ | refine AllY.i fun Y => ?_))
  (refine AWP.ret ?_; (repeat (first | refine inB_r ?_ | refine andThen_r ?_)); refine retQ_r ?_); refine Ends.ps ?_
  rfl
theorem at1_ps (c : Comp) (k : Int) : PS Try.prog 52 [compA false c, iA k] (iA (cmpI c.kind k)) := by
  refine Spec.of (nt := 9) (res := [.tmp 4]) Try.func52 rfl (by kernel_rfl) rfl rfl rfl fun Sf => ?_
  (repeat (first | (refine AOps.gN ?_; first | (refine AOps.g_callf ?_; first | refine AOps.c2 (h := (compare_ps c.kind k)) (k := ?_)) | (refine AOps.g_box ?_; refine AOps.goB ?_)) | refine WK ?_ | refine All.i fun X => ?_ | refine AllY.i fun Y => ?_))
  (refine AWP.ret ?_; (repeat (first | refine inB_r ?_ | refine andThen_r ?_)); refine retQ_r ?_); refine Ends.ps ?_
  rfl
set_option maxHeartbeats 1000000 in
theorem searchK_sp (l : List Comp) (t : AV) (f : FuncId) (cap : List AV) (g : Comp → Int) (t0 : Int) (ht : t = iA t0) (hs : st1s cap = true) (hl : l.length ≤ 4611686018427387904) (hf : ∀ x ∈ l, PS Try.prog f (compA false x :: t :: cap) (iA (g x))) :
    Spec Try.prog 51 [compsA false false l, t, .fn f cap] [] fun r S' => ∃ b, Found g l b ∧ r = .tup [iA b.1, bA b.2] ∧ S' = [] := by
  subst ht
  refine Spec.of (nt := 49) (res := [.tmp 6, .tmp 7]) Try.func51 rfl (by kernel_rfl) rfl rfl rfl fun Sf => ?_
  have hlm : (l.map (compA false)).length = l.length := List.length_map _
  (repeat (first | refine WK ?_ | refine All.i fun X => ?_ | refine AllY.i fun Y => ?_))
  refine AWP.lp2 (fun (i j : Nat) => ⟨[(0, compsA false false l), (1, iA t0), (2, .fn f cap), (8, iA (l.map (compA false)).length), (9, iA i), (10, iA j)], Sf⟩) (fun i j => i ≤ j ∧ j ≤ l.length ∧ (MonoL g l → Spl g l i j)) (fun i j => j - i) 0 (l.map (compA false)).length ⟨Nat.zero_le _, by omega, fun _ => ⟨fun k x h => absurd h (by omega), fun k x h hx => by have := (List.getElem?_eq_some_iff.1 hx).1; omega⟩⟩ ?_
  rintro i j ⟨hij, hjn, hmono⟩
  (repeat (first | refine WK ?_ | refine All.i fun X => ?_ | refine AllY.i fun Y => ?_))
  refine AWP.cond rfl (fun hc => ?_) (fun hc => ?_)
  · have h : i < j := by rw [decide_eq_true_eq] at hc; omega
    have hmid : ((i : Int) + j).fdiv (2 ^ 1) = (((i + j) / 2 : Nat) : Int) := by
      rw [Int.fdiv_eq_ediv_of_nonneg _ (by decide)]; omega
    have hw1 : IntKind.u64.wrap ((i : Int) + j) = i + j := by rw [IntKind.wrap_u64]; omega
    have hw2 : IntKind.i64.wrap (((i : Int) + j).fdiv (2 ^ 1)) = ((i : Int) + j).fdiv (2 ^ 1) := by
      rw [IntKind.wrap_i64, hmid]; omega
    (repeat refine WF ?_); refine AWP.region ?_; (repeat (first | (refine AOps.gN ?_; first | refine AOps.p (W.conv .i64 .u64 (by kernel_rfl) (by kernel_rfl) rfl hw1) rfl ?_ | refine AOps.p (W.shr 1 rfl rfl rfl (by decide)) rfl ?_ | refine AOps.p (W.conv .u64 .i64 (by kernel_rfl) (by kernel_rfl) rfl hw2) rfl ?_) | refine WO ?_ | refine All.i fun X => ?_ | refine AllY.i fun Y => ?_)); refine AOps.nil ?_; (repeat refine WN ?_)
    rw [hmid]
    obtain ⟨m, hm⟩ : ∃ m, (i + j) / 2 = m := ⟨_, rfl⟩
    rw [hm]
    have hml : m < l.length := by omega
    obtain ⟨y, hy⟩ : ∃ y, l[m] = y := ⟨_, rfl⟩
    have hya : l[m]? = some y := by rw [List.getElem?_eq_getElem hml, hy]
    have hat : (l.map (compA false))[m]? = some (compA false y) := by rw [List.getElem?_map, hya]; rfl
    have hfy := hf y (by rw [← hy]; exact List.getElem_mem hml)
    (repeat refine WF ?_); refine AWP.region ?_; (repeat (first | (refine AOps.gN ?_; first | (refine AOps.g_callv ?_; first | refine AOps.k2 (h := (hfy ..)) (k := ?_))) | refine WO ?_ | refine All.i fun X => ?_ | refine AllY.i fun Y => ?_)); refine AOps.nil ?_; (repeat refine WN ?_)
    refine AWP.cond rfl (fun he => ?_) (fun he => ?_)
    · have he : g y < 0 := by simpa using he
      (repeat (first | refine WK ?_ | refine All.i fun X => ?_ | refine AllY.i fun Y => ?_))
      refine lp_next2 (m + 1) j ⟨by omega, hjn, fun hM => (hmono hM).lo hM hya he⟩
    · have he : ¬ g y < 0 := by simpa using he
      (repeat (first | refine WK ?_ | refine All.i fun X => ?_ | refine AllY.i fun Y => ?_))
      refine lp_next2 i m ⟨by omega, by omega, fun hM => (hmono hM).hi hM hya he⟩
  · have h : i = j := by rw [decide_eq_false_iff_not] at hc; omega
    subst h
    by_cases hin : i < l.length
    · have hil : i < l.length := by omega
      have g1 : decide ((i : Int) < (l.map (compA false)).length) = true := decide_eq_true (by omega)
      obtain ⟨y, hy⟩ : ∃ y, l[i] = y := ⟨_, rfl⟩
      have hya : l[i]? = some y := by rw [List.getElem?_eq_getElem hil, hy]
      have hat : (l.map (compA false))[i]? = some (compA false y) := by rw [List.getElem?_map, hya]; rfl
      have hfy := hf y (by rw [← hy]; exact List.getElem_mem hil)
      (repeat (first | (refine AOps.gN ?_; first | (refine AOps.g_callv ?_; first | refine AOps.k2 (h := (hfy ..)) (k := ?_))) | refine WK ?_ | refine All.i fun X => ?_ | refine AllY.i fun Y => ?_))
      (refine AWP.ret ?_; (repeat (first | refine inB_r ?_ | refine andThen_r ?_)); refine retQ_r ?_)
      exact ⟨[iA i, bA (decide (g y = 0))], [iA i, bA (decide (g y = 0))], _, [], .cons (.tmp rfl) rfl (.cons (.tmp rfl) rfl .nil), .cons (.cell .same) (.cons (.cell .same) .nil), by exact Sub.f, (i, decide (g y = 0)), ⟨by simp; omega, by simp [hya], hmono⟩, rfl, rfl⟩
    · have g1 : decide ((i : Int) < (l.map (compA false)).length) = false := decide_eq_false (by omega)
      (repeat (first | refine WK ?_ | refine All.i fun X => ?_ | refine AllY.i fun Y => ?_))
      (refine AWP.ret ?_; (repeat (first | refine inB_r ?_ | refine andThen_r ?_)); refine retQ_r ?_)
      exact ⟨[iA i, bA false], [iA i, bA false], _, [], .cons (.tmp rfl) rfl (.cons (.tmp rfl) rfl .nil), .cons (.cell .same) (.cons (.cell .same) .nil), by exact Sub.f, (i, false), ⟨by simp; omega, by simp [List.getElem?_eq_none (show l.length ≤ i by omega)], hmono⟩, rfl, rfl⟩
theorem at_sp (l : List Comp) (k : Int) (hl : l.length ≤ 4611686018427387904) : Spec Try.prog 29 [compsA false false l, iA k] [] fun r S' => ∃ b, Found (fun c : Comp => cmpI c.kind k) l b ∧ r = .tup [iA b.1, bA b.2] ∧ S' = [] := by
  have h := searchK_sp l (iA k) 52 [] (fun c => cmpI c.kind k) k rfl rfl hl (fun x _ => at1_ps x k)
  refine Spec.of (nt := 11) (res := [.tmp 4, .tmp 5]) Try.func29 rfl (by kernel_rfl) rfl rfl rfl fun Sf => ?_
  (repeat refine WF ?_); refine AWP.region ?_; (repeat (first | refine WO ?_ | refine All.i fun X => ?_ | refine AllY.i fun Y => ?_)); refine AOps.nil ?_; (repeat refine WN ?_)
  (repeat refine WF ?_); refine AWP.region ?_; (repeat (first | refine WO ?_ | refine All.i fun X => ?_ | refine AllY.i fun Y => ?_))
  refine AOps.e3 (h := h) fun b hb => ?_
  (repeat (first | refine WO ?_ | refine All.i fun X => ?_ | refine AllY.i fun Y => ?_))
  (repeat first | refine AOps.nil ?_ | refine WF ?_)
  (refine AWP.ret ?_; (repeat (first | refine inB_r ?_ | refine andThen_r ?_)); refine retQ_r ?_)
  exact ⟨[iA b.1, bA b.2], [iA b.1, bA b.2], _, [], .cons (.tmp rfl) rfl (.cons (.tmp rfl) rfl .nil), .cons (.cell .same) (.cons (.cell .same) .nil), by exact Sub.f, b, hb, rfl, rfl⟩
end Go.Proofs.Ytanokoededdceaa

namespace Go.Proofs.Ytanokoededdceaa
set_option linter.unusedVariables false
theorem cloneI_ps (l : List Int) (hl : l.length * 8 ≤ 140737488355328) : PS Try.prog 11 [.lst false 3 1 (l.map iA)] (.lst true 3 1 (l.map iA)) := by
  refine Spec.of (nt := 8) (res := [.tmp 2]) Try.func11 rfl (by kernel_rfl) rfl rfl rfl fun Sf => ?_
  (repeat (first | (refine AOps.gN ?_; first | refine AOps.isNil fun b hb => ?_) | refine WK ?_ | refine All.i fun X => ?_ | refine AllY.i fun Y => ?_))
  refine AWP.cond rfl (fun hc => ?_) (fun hc => ?_)
  · rw [hb hc]
    (repeat (first | refine WK ?_ | refine All.i fun X => ?_ | refine AllY.i fun Y => ?_))
    (refine AWP.ret ?_; (repeat (first | refine inB_r ?_ | refine andThen_r ?_)); refine retQ_r ?_)
    exact ⟨[.prim (.slice none 0 0)], [.lst true 3 1 []], _, [], .cons (.tmp rfl) rfl .nil, .cons (.cell .nil) .nil, by exact Sub.f, rfl, rfl⟩
  · have hl' : (0 + (l.map iA).length) * 8 ≤ 140737488355328 := by simpa using hl
    clear hl
    (repeat (first | (refine AOps.gN ?_; first | (refine AOps.g_lit ?_; refine AOps.goL0 fun K => ?_)) | refine WK ?_ | refine All.i fun X => ?_ | refine AllY.i fun Y => ?_))
    (refine AWP.ret ?_; (repeat (first | refine inB_r ?_ | refine andThen_r ?_)); refine retQ_r ?_)
    exact ⟨[.sl Y 0 (0 + (l.map iA).length)], [.lst true 3 1 (l.map iA)], _, [], .cons (.tmp rfl) rfl .nil, .cons (.cell (.sl (p := 0) .here (by simp))) .nil, by exact Sub.f, rfl, rfl⟩
end Go.Proofs.Ytanokoededdceaa

namespace Go.Proofs.Ytanokoededdceaa
set_option linter.unusedVariables false
/-- Components in increasing order of their kinds. -/
def SortC (l : List Comp) : Prop := l.Pairwise fun a b => a.kind < b.kind
theorem heldFrom_sort {ks : List Kind} : ∀ {l : List Comp} {last : Int}, heldFrom ks last l = true → SortC l ∧ ∀ c ∈ l, last < c.kind ∧ c.kind < ks.length
  | [], _, _ => ⟨.nil, fun c hc => by cases hc⟩
  | c :: l, last, h => by
    rw [heldFrom] at h
    split at h
    · simp only [Bool.and_eq_true, decide_eq_true_eq] at h
      obtain ⟨h1, h2⟩ := heldFrom_sort h.2
      refine ⟨List.pairwise_cons.2 ⟨fun d hd => (h2 d hd).1, h1⟩, fun d hd => ?_⟩
      rcases List.mem_cons.1 hd with rfl | hd
      · exact ⟨h.1.1.1, h.1.1.2⟩
      · exact ⟨by have := (h2 d hd).1; have := h.1.1.1; omega, (h2 d hd).2⟩
    · cases h
theorem cmpI_lt {a b : Int} : cmpI a b < 0 ↔ a < b := by
  unfold cmpI
  split
  · simp; assumption
  · split <;> simp <;> omega
theorem cmpI_eq {a b : Int} : cmpI a b = 0 ↔ a = b := by
  unfold cmpI
  split
  · simp; omega
  · split <;> simp <;> omega
theorem sortC_mono {l : List Comp} (h : SortC l) (k : Int) : MonoL (fun c : Comp => cmpI c.kind k) l := by
  intro a b x y hab hx hy hy0
  rw [cmpI_lt] at hy0 ⊢
  by_cases e : a = b
  · subst e; rw [hx] at hy; cases hy; exact hy0
  · obtain ⟨ha, rfl⟩ := List.getElem?_eq_some_iff.1 hx
    obtain ⟨hb, rfl⟩ := List.getElem?_eq_some_iff.1 hy
    have := List.pairwise_iff_getElem.1 h a b ha hb (by omega)
    omega
/-- What is found in components in order: the one of that kind, or the place for one. -/
theorem found_yes {l : List Comp} {k : Int} {b : Nat × Bool} (h : Found (fun c : Comp => cmpI c.kind k) l b) (hb : b.2 = true) : ∃ c, l[b.1]? = some c ∧ c.kind = k := by
  obtain ⟨c, hc, h0⟩ := h.eq.1 hb
  exact ⟨c, hc, cmpI_eq.1 h0⟩
theorem found_no {l : List Comp} {k : Int} {b : Nat × Bool} (h : Found (fun c : Comp => cmpI c.kind k) l b) (hs : SortC l) (hb : b.2 = false) : ∀ c ∈ l, c.kind ≠ k := by
  intro c hc e
  obtain ⟨j, hj, rfl⟩ := List.getElem_of_mem hc
  obtain ⟨h1, h2⟩ := h.mono (sortC_mono hs k)
  have hne : ¬ ∃ x, l[b.1]? = some x ∧ cmpI x.kind k = 0 := fun hx => by rw [h.eq.2 hx] at hb; cases hb
  have hjb : b.1 ≤ j := by
    rcases Nat.lt_or_ge j b.1 with hlt | hge
    · have := h1 j _ hlt (List.getElem?_eq_getElem hj)
      rw [cmpI_lt] at this; omega
    · exact hge
  have hbl : b.1 < l.length := by omega
  have h3 := h2 b.1 _ (Nat.le_refl _) (List.getElem?_eq_getElem hbl)
  rw [cmpI_lt] at h3
  by_cases e2 : j = b.1
  · subst e2
    exact hne ⟨_, List.getElem?_eq_getElem hj, cmpI_eq.2 e⟩
  · have := List.pairwise_iff_getElem.1 hs b.1 j hbl hj (by omega)
    omega
/-- The component of a kind. -/
def compOf (l : List Comp) (k : Int) : Option Comp := l.find? fun c => decide (c.kind = k)
theorem compOf_yes {l : List Comp} {k : Int} {c : Comp} (hs : SortC l) (hc : c ∈ l) (hk : c.kind = k) : compOf l k = some c := by
  induction l with
  | nil => cases hc
  | cons a l ih =>
    obtain ⟨h1, h2⟩ := List.pairwise_cons.1 hs
    unfold compOf
    rw [List.find?_cons]
    rcases List.mem_cons.1 hc with rfl | hc
    · simp [hk]
    · have : ¬ a.kind = k := by have := h1 c hc; omega
      simp only [this, decide_false]
      exact ih h2 hc
theorem compOf_no {l : List Comp} {k : Int} (h : ∀ c ∈ l, c.kind ≠ k) : compOf l k = none := by
  unfold compOf
  rw [List.find?_eq_none]
  intro c hc
  simpa using h c hc
/-- What world.Get returns. -/
def getOf (w : Wd) (e : Ent) (k : Int) : List Int × Int :=
  if wdErr w ≠ 0 then ([], wdErr w) else match w.items.find? (fun it => decide (it.ent = e)) with
    | none => ([], 4)
    | some it => match compOf it.comps k with
      | none => ([], 4)
      | some c => (c.vals, 0)
theorem findE_none {l : List Item} {e : Ent} (h : findE l e < 0) : l.find? (fun it => decide (it.ent = e)) = none := by
  unfold findE idxF at h
  split at h
  · omega
  · rename_i h2
    rw [List.findIdx?_eq_none_iff] at h2
    rw [List.find?_eq_none]
    intro x hx
    rw [h2 x hx]; simp
theorem findE_some {l : List Item} {e : Ent} {n : Nat} (h : findE l e = n) : ∃ it, l[n]? = some it ∧ l.find? (fun it => decide (it.ent = e)) = some it ∧ it.ent = e := by
  unfold findE idxF at h
  split at h
  · rename_i i h2
    have : i = n := by omega
    subst this
    obtain ⟨hi, h3, h4⟩ := List.findIdx?_eq_some_iff_getElem.1 h2
    refine ⟨l[i], List.getElem?_eq_getElem hi, ?_, by simpa using h3⟩
    rw [List.find?_eq_some_iff_getElem]
    exact ⟨h3, i, hi, rfl, fun j hj => by simpa using h4 j hj⟩
  · omega
theorem items_held {ks : List Kind} {gens : List Int} : ∀ {l : List Item} {last : Int}, itemsFrom ks gens last l = true → ∀ it ∈ l, heldOf ks it.comps = true
  | [], _, _, it, hit => by cases hit
  | x :: l, last, h, it, hit => by
    rw [itemsFrom] at h
    split at h
    · simp only [Bool.and_eq_true] at h
      rcases List.mem_cons.1 hit with rfl | hit
      · exact h.1.2
      · exact items_held h.2 it hit
    · cases h
theorem wd_held {w : Wd} (h : wdErr w = 0) : ∀ it ∈ w.items, heldOf w.kinds it.comps = true := by
  unfold wdErr at h
  split at h
  · exact absurd h ‹_›
  · split at h
    · cases h
    · split at h
      · cases h
      · split at h
        · cases h
        · rename_i hi
          exact items_held (by simpa using hi)
theorem wd_sort {w : Wd} (h : wdErr w = 0) : ∀ it ∈ w.items, SortC it.comps := fun it hit => (heldFrom_sort (wd_held h it hit)).1
theorem get_ps (w : Wd) (e : Ent) (k : Int) (hw : WdL w) : PS Try.prog 8 [wdA false w, entA e, iA k] (.tup [intsA true (getOf w e k).1, iA (getOf w e k).2]) := by
  have hck := check_ps' w hw.gens hw.items.1 (fun it hit => (hw.items.2 it hit).1)
  have hfd := find_ps' w e (by have := hw.items.1; omega)
  obtain ⟨r, hr⟩ : ∃ r, getOf w e k = r := ⟨_, rfl⟩
  rw [hr]
  unfold getOf at hr
  obtain ⟨we, hwe⟩ : ∃ we, wdErr w = we := ⟨_, rfl⟩
  rw [hwe] at hck hr
  refine Spec.of (nt := 46) (res := [.tmp 6, .tmp 7]) Try.func8 rfl (by kernel_rfl) rfl rfl rfl fun Sf => ?_
  (repeat refine WF ?_); refine AWP.region ?_; (repeat (first | (refine AOps.gN ?_; first | (refine AOps.g_box ?_; refine AOps.goB ?_)) | refine WO ?_ | refine All.i fun X => ?_ | refine AllY.i fun Y => ?_)); refine AOps.nil ?_; (repeat refine WN ?_)
  (repeat refine WF ?_); refine AWP.region ?_; (repeat (first | (refine AOps.gN ?_; first | (refine AOps.g_callf ?_; first | refine AOps.c1 (h := (hck ..)) (k := ?_))) | refine WO ?_ | refine All.i fun X => ?_ | refine AllY.i fun Y => ?_)); refine AOps.nil ?_; (repeat refine WN ?_)
  (repeat (first | refine WK ?_ | refine All.i fun X => ?_ | refine AllY.i fun Y => ?_))
  refine AWP.cond rfl (fun hd => ?_) (fun hd => ?_)
  · have hd : we ≠ 0 := by simpa using hd
    rw [if_pos hd] at hr
    subst hr
    (repeat (first | refine WK ?_ | refine All.i fun X => ?_ | refine AllY.i fun Y => ?_))
    (refine AWP.ret ?_; (repeat (first | refine inB_r ?_ | refine andThen_r ?_)); refine retQ_r ?_)
    exact ⟨[.prim (.slice none 0 0), iA we], [intsA true [], iA we], _, [], .cons (.tmp rfl) rfl (.cons (.tmp rfl) rfl .nil), .cons (.cell .nil) (.cons (.cell .same) .nil), by exact Sub.f, rfl, rfl⟩
  have hd : we = 0 := by simpa using hd
  rw [if_neg (by simp [hd])] at hr
  have hsort := wd_sort (hwe.trans hd)
  (repeat refine WF ?_); refine AWP.region ?_; (repeat (first | (refine AOps.gN ?_; first | (refine AOps.g_callf ?_; first | refine AOps.c2 (h := (hfd ..)) (k := ?_))) | refine WO ?_ | refine All.i fun X => ?_ | refine AllY.i fun Y => ?_)); refine AOps.nil ?_; (repeat refine WN ?_)
  (repeat (first | refine WK ?_ | refine All.i fun X => ?_ | refine AllY.i fun Y => ?_))
  refine AWP.cond rfl (fun hg => ?_) (fun hg => ?_)
  · have hg : findE w.items e < 0 := by simpa using hg
    rw [findE_none hg] at hr
    subst hr
    (repeat (first | refine WK ?_ | refine All.i fun X => ?_ | refine AllY.i fun Y => ?_))
    (refine AWP.ret ?_; (repeat (first | refine inB_r ?_ | refine andThen_r ?_)); refine retQ_r ?_)
    exact ⟨[.prim (.slice none 0 0), iA 4], [intsA true [], iA 4], _, [], .cons (.tmp rfl) rfl (.cons (.tmp rfl) rfl .nil), .cons (.cell .nil) (.cons (.cell .same) .nil), by exact Sub.f, rfl, rfl⟩
  obtain ⟨n, hn⟩ : ∃ n : Nat, findE w.items e = n := ⟨(findE w.items e).toNat, by have : ¬ findE w.items e < 0 := by simpa using hg
                                                                                  omega⟩
  rw [hn]
  obtain ⟨⟨en, cs⟩, hit, hfi, hen⟩ := findE_some hn
  rw [hfi] at hr
  dsimp only at hr
  have hmem := List.mem_of_getElem? hit
  have hcl := hw.items.2 _ hmem
  have hsc := hsort _ hmem
  dsimp only at hcl hsc
  have hat : (w.items.map (itemA false))[n]? = some (itemA false ⟨en, cs⟩) := by rw [List.getElem?_map, hit]; rfl
  have hap := at_sp cs k (by have := hcl.1; omega)
  (repeat first | refine AOps.nil ?_ | refine WF ?_)
  (repeat refine WF ?_); refine AWP.region ?_; (repeat (first | refine WO ?_ | refine All.i fun X => ?_ | refine AllY.i fun Y => ?_))
  refine AOps.e2 (h := hap) fun b hb => ?_
  obtain ⟨bi, bb⟩ := b
  cases bb
  · have hno := found_no hb hsc rfl
    rw [compOf_no hno] at hr
    subst hr
    dsimp only
    (repeat (first | refine WO ?_ | refine All.i fun X => ?_ | refine AllY.i fun Y => ?_))
    (repeat first | refine AOps.nil ?_ | refine WF ?_)
    (repeat (first | refine WK ?_ | refine All.i fun X => ?_ | refine AllY.i fun Y => ?_))
    refine AWP.cond_t rfl rfl ?_
    (repeat (first | refine WK ?_ | refine All.i fun X => ?_ | refine AllY.i fun Y => ?_))
    (refine AWP.ret ?_; (repeat (first | refine inB_r ?_ | refine andThen_r ?_)); refine retQ_r ?_)
    exact ⟨[.prim (.slice none 0 0), iA 4], [intsA true [], iA 4], _, [], .cons (.tmp rfl) rfl (.cons (.tmp rfl) rfl .nil), .cons (.cell .nil) (.cons (.cell .same) .nil), by exact Sub.f, rfl, rfl⟩
  · obtain ⟨c, hc, hck'⟩ := found_yes hb rfl
    dsimp only at hc
    have hcm := List.mem_of_getElem? hc
    rw [compOf_yes hsc hcm hck'] at hr
    subst hr
    obtain ⟨ckd, cv⟩ := c
    have hvl := hcl.2 _ hcm
    dsimp only at hvl
    have hat2 : (cs.map (compA false))[bi]? = some (compA false ⟨ckd, cv⟩) := by rw [List.getElem?_map, hc]; rfl
    have hcn := cloneI_ps cv (by omega)
    dsimp only
    (repeat (first | refine WO ?_ | refine All.i fun X => ?_ | refine AllY.i fun Y => ?_))
    (repeat first | refine AOps.nil ?_ | refine WF ?_)
    (repeat (first | refine WK ?_ | refine All.i fun X => ?_ | refine AllY.i fun Y => ?_))
    refine AWP.cond_f rfl rfl ?_
    (repeat (first | (refine AOps.gN ?_; first | (refine AOps.g_callf ?_; first | refine AOps.t1 (h := hcn) fun Y => ?_)) | refine WK ?_ | refine All.i fun X => ?_ | refine AllY.i fun Y => ?_))
    (refine AWP.ret ?_; (repeat (first | refine inB_r ?_ | refine andThen_r ?_)); refine retQ_r ?_)
    exact ⟨[.sl Y 0 (cv.map iA).length, iA 0], [intsA true cv, iA 0], _, [], .cons (.tmp rfl) rfl (.cons (.tmp rfl) rfl .nil), .cons (.cell (.sl (p := 0) .here rfl)) (.cons (.cell .same) .nil), by exact Sub.f, rfl, rfl⟩
end Go.Proofs.Ytanokoededdceaa

namespace Go.Proofs.Ytanokoededdceaa
set_option linter.unusedVariables false
/-- Components in increasing order of their kinds. -/
def kSort (l : List Comp) : List Comp := l.mergeSort fun a b => decide (a.kind ≤ b.kind)
/-- The fitted components behind those of pre, out so far. -/
def fitGo (ks : List Kind) : List Comp → List Comp → List Comp → List Comp × Int
  | _, out, [] => (out, 0)
  | pre, out, c :: l =>
    if c.kind < 0 ∨ (ks.length : Int) ≤ c.kind then ([], 1) else if pre.any (fun o => decide (o.kind = c.kind)) then ([], 5) else
    match ks[c.kind.toNat]? with
    | none => ([], 1)
    | some k => if (fitOf k c.vals).2 ≠ 0 then ([], (fitOf k c.vals).2) else fitGo ks (pre ++ [c]) (out ++ [⟨c.kind, (fitOf k c.vals).1⟩]) l
/-- What world.Fit returns. -/
def wFit (ks : List Kind) (l : List Comp) : List Comp × Int :=
  if checkErr ks ≠ 0 then ([], checkErr ks) else if (fitGo ks [] [] l).2 ≠ 0 then ([], (fitGo ks [] [] l).2) else (kSort (fitGo ks [] [] l).1, 0)
theorem fitGo_ok {ks : List Kind} : ∀ {l pre out : List Comp}, (fitGo ks pre out l).2 = 0 → (∀ a ∈ out, ∃ b ∈ pre, b.kind = a.kind) → out.Pairwise (fun a b => a.kind ≠ b.kind) → (∀ a ∈ out, 0 ≤ a.kind ∧ a.kind < ks.length) →
    (fitGo ks pre out l).1.Pairwise (fun a b => a.kind ≠ b.kind) ∧ ∀ a ∈ (fitGo ks pre out l).1, 0 ≤ a.kind ∧ a.kind < ks.length
  | [], pre, out, h, h1, h2, h3 => ⟨h2, h3⟩
  | c :: l, pre, out, h, h1, h2, h3 => by
    rw [fitGo] at h ⊢
    split at h
    · cases h
    · rename_i g1
      rw [if_neg g1]
      split at h
      · cases h
      · rename_i g2
        rw [if_neg g2]
        split at h
        · cases h
        · rename_i k hk
          split at h
          · rename_i g3; exact absurd h g3
          · rename_i g3
            (try simp only [hk])
            rw [if_neg g3]
            refine fitGo_ok h (fun a ha => ?_) ?_ (fun a ha => ?_)
            · rcases List.mem_append.1 ha with ha | ha
              · obtain ⟨b, hb, e⟩ := h1 a ha
                exact ⟨b, by simp [hb], e⟩
              · rw [List.mem_singleton.1 ha]
                exact ⟨c, by simp, rfl⟩
            · rw [List.pairwise_append]
              refine ⟨h2, by simp, fun a ha b hb e => ?_⟩
              rw [List.mem_singleton.1 hb] at e
              obtain ⟨b2, hb2, e2⟩ := h1 a ha
              exact g2 (List.any_eq_true.2 ⟨b2, hb2, by simpa using e2.trans e⟩)
            · rcases List.mem_append.1 ha with ha | ha
              · exact h3 a ha
              · rw [List.mem_singleton.1 ha]; exact ⟨by dsimp only; omega, by dsimp only; omega⟩
/-- At most n different numbers from 0 to n - 1. -/
theorem nodup_le {α : Type} (g : α → Int) : ∀ (n : Nat) (l : List α), l.Pairwise (fun a b => g a ≠ g b) → (∀ a ∈ l, 0 ≤ g a ∧ g a < n) → l.length ≤ n := by
  intro n l h1 h2
  have h3 : (l.map fun a => (g a).toNat).Nodup := by
    rw [List.Nodup, List.pairwise_map]
    refine h1.imp_of_mem fun {a b} ha hb e => ?_
    have := h2 a ha
    have := h2 b hb
    omega
  have h4 := List.Nodup.length_le_of_subset h3 (l₂ := List.range n) (fun x hx => by
    obtain ⟨a, ha, rfl⟩ := List.mem_map.1 hx
    have := h2 a ha
    exact List.mem_range.2 (by omega))
  simpa using h4
theorem kSort_perm (l : List Comp) : (kSort l).Perm l := List.mergeSort_perm _ _
/-- A permutation in order is the sorted list. -/
theorem kSort_uniq {l u : List Comp} (hd : l.Pairwise (fun a b => a.kind ≠ b.kind)) (hp : u.Perm l) (hs : u.Pairwise (fun a b => a.kind ≤ b.kind)) : u = kSort l := by
  refine List.Perm.eq_of_pairwise (le := fun a b => a.kind ≤ b.kind) (fun a b ha hb h1 h2 => ?_) hs ?_ (hp.trans (kSort_perm l).symm)
  · have hb' : b ∈ l := (kSort_perm l).mem_iff.1 hb
    have ha' : a ∈ l := hp.mem_iff.1 ha
    obtain ⟨i, hi, rfl⟩ := List.getElem_of_mem ha'
    obtain ⟨j, hj, rfl⟩ := List.getElem_of_mem hb'
    have := List.pairwise_iff_getElem.1 hd
    rcases Nat.lt_trichotomy i j with x | x | x
    · exact absurd (by omega) (this i j hi hj x)
    · subst x; rfl
    · exact absurd (by omega) (this j i hj hi x)
  · have := List.pairwise_mergeSort (le := fun a b : Comp => decide (a.kind ≤ b.kind)) (fun a b c h1 h2 => by simp at *; omega) (fun a b => by simp; omega) l
    exact this.imp fun h => by simpa using h
/-- The gens with one more slot if n is the first one behind them. -/
def growG (gens : List Int) (n : Nat) : List Int := if n = gens.length then gens ++ [0] else gens
def insI : List Item → Item → List Item
  | [], it => [it]
  | x :: l, it => if x.ent.n < it.ent.n then x :: insI l it else it :: x :: l
/-- What world.Spawn returns. -/
def spawnOf (w : Wd) (l : List Comp) : Wd × Ent × Int :=
  if wdErr w ≠ 0 then (⟨[], [], []⟩, ⟨0, 0⟩, wdErr w) else if (wFit w.kinds l).2 ≠ 0 then (⟨[], [], []⟩, ⟨0, 0⟩, (wFit w.kinds l).2) else
  if (freeOf w).2 = false then (⟨[], [], []⟩, ⟨0, 0⟩, 6) else
  (⟨w.kinds, growG w.gens (freeOf w).1, insI w.items ⟨⟨(freeOf w).1, (growG w.gens (freeOf w).1).getD (freeOf w).1 0⟩, (wFit w.kinds l).1⟩⟩, ⟨(freeOf w).1, (growG w.gens (freeOf w).1).getD (freeOf w).1 0⟩, 0)
end Go.Proofs.Ytanokoededdceaa

namespace Go.Proofs.Ytanokoededdceaa
set_option linter.unusedVariables false
/-- The first i copied, the rest empty. -/
def kcpL (ks : List Kind) (i : Nat) : List AV := (ks.take i).map (kindA true) ++ List.replicate (ks.length - i) (.agg [sA [], .prim (.slice none 0 0)])
theorem kcpL_len (ks : List Kind) (i : Nat) (h : i ≤ ks.length) : (kcpL ks i).length = ks.length := by simp [kcpL]; omega
theorem kcpL_at {ks : List Kind} {i : Nat} (h : i < ks.length) : (kcpL ks i)[i]? = some (.agg [sA [], .prim (.slice none 0 0)]) := by
  unfold kcpL
  rw [List.getElem?_append_right (by simp; omega), List.getElem?_replicate, if_pos (by simp; omega)]
theorem kcpL_set {ks : List Kind} {i : Nat} (h : i < ks.length) : (kcpL ks i).set i (kindA true ks[i]) = kcpL ks (i + 1) := by
  unfold kcpL
  rw [List.set_append_right _ _ (by simp; omega), List.length_map, List.length_take, Nat.min_eq_left (by omega), Nat.sub_self]
  rw [show ks.length - i = (ks.length - (i + 1)) + 1 from by omega, List.replicate_succ, List.set_cons_zero]
  rw [List.take_succ_eq_append_getElem h, List.map_append, List.append_assoc]
  rfl
theorem kindCopy_ps (ks : List Kind) (hl : ks.length ≤ 1099511627776) (hf : ∀ k ∈ ks, k.fields.length ≤ 1099511627776) : PS Try.prog 37 [kindsA false false ks] (kindsA true true ks) := by
  refine Spec.of (nt := 27) (res := [.tmp 2]) Try.func37 rfl (by kernel_rfl) rfl rfl rfl fun Sf => ?_
  have hkm : (ks.map (kindA false)).length = ks.length := List.length_map _
  have hz0 : List.replicate (ks.map (kindA false)).length (.agg [sA [], .prim (.slice none 0 0)]) = kcpL ks 0 := by simp [kcpL]
  (repeat (first | (refine AOps.gN ?_; first | (refine AOps.g_make ?_; refine AOps.goM ((.agg [sA [], .prim (.slice none 0 0)])) fun K => ?_)) | refine WK ?_ | refine All.i fun X => ?_ | refine AllY.i fun Y => ?_))
  rw [hz0]
  refine AWP.lp2 (fun (i : Nat) (M : List AV) => ⟨[(3, .sl K 0 (ks.map (kindA false)).length), (9, kindsA false false ks), (10, iA (ks.map (kindA false)).length), (11, iA i)], (K, .row 67 2 M) :: Sf⟩) (fun i M => i ≤ ks.length ∧ M = kcpL ks i) (fun i _ => ks.length - i) 0 _ ⟨Nat.zero_le _, rfl⟩ ?_
  rintro i M ⟨hi, hM⟩
  (repeat (first | refine WK ?_ | refine All.i fun X => ?_ | refine AllY.i fun Y => ?_))
  refine AWP.cond rfl (fun hc => ?_) (fun hc => ?_)
  · have h : i < ks.length := by rw [decide_eq_true_eq, hkm] at hc; omega
    have hset := kcpL_set h
    have hMat : M[i]? = some (.agg [sA [], .prim (.slice none 0 0)]) := by rw [hM]; exact kcpL_at h
    have hMl : M.length = ks.length := by rw [hM]; exact kcpL_len ks i hi
    have hfl := hf _ (List.getElem_mem h)
    obtain ⟨⟨kn, fs⟩, hk⟩ : ∃ k, ks[i] = k := ⟨_, rfl⟩
    rw [hk] at hset hfl
    dsimp only at hfl
    have hat : (ks.map (kindA false))[i]? = some (kindA false ⟨kn, fs⟩) := by rw [List.getElem?_map, List.getElem?_eq_getElem h, hk]; rfl
    have hil : i < (ks.map (kindA false)).length := by omega
    have hfm : (fs.map fieldA).length = fs.length := List.length_map _
    (repeat (first | refine WK ?_ | refine All.i fun V => ?_ | refine AllY.i fun Y => ?_))
    refine AWP.rs fun Y => ?_
    (repeat refine WF ?_); refine AWP.region_run (by kernel_rfl) (by kernel_rfl) ?_; (repeat (first | (refine RGo.gN ?_; first | refine RGo.s (W.appN (by rw [hfm]; omega) (by rw [hfm]; unfold maxLen; omega) rfl rfl (by exact At.f)) rfl ?_) | (refine RGo.gQ ?_; first | refine RGo.s (W.appN (by rw [hfm]; omega) (by rw [hfm]; unfold maxLen; omega) rfl rfl (by exact At.f)) rfl ?_) | refine RK ?_ | refine RGo.nil (by kernel_rfl) ?_))
    (repeat refine WF ?_)
    have hMs : (M.set i (.agg [sA kn, .sl Y 0 (fs.map fieldA).length]))[i]? = some (.agg [sA kn, .sl Y 0 (fs.map fieldA).length]) := by rw [List.getElem?_set_self (by omega)]
    refine AWP.closeIn (X := Y) (Y := K) .here (.next (.next .here)) rfl rfl (Hos.at hMs (.agg (.tail (.head .here)))) ?_
    rw [List.set_set]
    (repeat (first | refine WK ?_ | refine All.i fun X => ?_ | refine AllY.i fun Y => ?_))
    refine lp_next2 (i + 1) _ ⟨h, ?_⟩
    rw [hM]; exact hset
  · have h : i = ks.length := by rw [decide_eq_false_iff_not, hkm] at hc; omega
    subst h
    have hfin : kcpL ks ks.length = ks.map (kindA true) := by simp [kcpL]
    rw [hfin] at hM
    subst hM
    (repeat (first | refine WK ?_ | refine All.i fun X => ?_ | refine AllY.i fun Y => ?_))
    (refine AWP.ret ?_; (repeat (first | refine inB_r ?_ | refine andThen_r ?_)); refine retQ_r ?_)
    exact ⟨[.sl K 0 (ks.map (kindA false)).length], [kindsA true true ks], _, [], .cons (.tmp rfl) rfl .nil, .cons (.cell (.sl (p := 0) .here (by simp))) .nil, by exact Sub.f, rfl, rfl⟩
end Go.Proofs.Ytanokoededdceaa

namespace Go.Proofs.Ytanokoededdceaa
set_option linter.unusedVariables false
/-- A list that is filled from the left: the first i of l, then z. -/
def fillTo {α : Type} (f : α → AV) (z : AV) (l : List α) (i : Nat) : List AV := (l.take i).map f ++ List.replicate (l.length - i) z
theorem fillTo_zero {α : Type} (f : α → AV) (z : AV) (l : List α) : fillTo f z l 0 = List.replicate l.length z := by simp [fillTo]
theorem fillTo_len {α : Type} (f : α → AV) (z : AV) (l : List α) (i : Nat) (h : i ≤ l.length) : (fillTo f z l i).length = l.length := by simp [fillTo]; omega
theorem fillTo_at {α : Type} (f : α → AV) (z : AV) (l : List α) {i : Nat} (h : i < l.length) : (fillTo f z l i)[i]? = some z := by
  unfold fillTo
  rw [List.getElem?_append_right (by simp; omega)]
  simp only [List.length_map, List.length_take, Nat.min_eq_left (Nat.le_of_lt h), Nat.sub_self]
  rw [List.getElem?_replicate, if_pos (by omega)]
theorem fillTo_set {α : Type} (f : α → AV) (z : AV) (l : List α) {i : Nat} (h : i < l.length) : (fillTo f z l i).set i (f l[i]) = fillTo f z l (i + 1) := by
  unfold fillTo
  rw [List.set_append_right _ _ (by simp; omega), List.take_add_one, List.getElem?_eq_getElem h]
  simp only [List.length_map, List.length_take, Nat.min_eq_left (Nat.le_of_lt h), Nat.sub_self, Option.toList_some, List.map_append, List.map_cons, List.map_nil, List.append_assoc]
  congr 1
  rw [show l.length - i = (l.length - (i + 1)) + 1 from by omega, List.replicate_succ]
  rfl
theorem fillTo_all {α : Type} (f : α → AV) (z : AV) (l : List α) {i : Nat} (h : l.length ≤ i) : fillTo f z l i = l.map f := by
  unfold fillTo
  rw [List.take_of_length_le h, show l.length - i = 0 from by omega]
  simp
theorem copyComps_ps (l : List Comp) (hl : l.length ≤ 1099511627776) (hv : ∀ c ∈ l, c.vals.length ≤ 1099511627776) : PS Try.prog 61 [compsA false false l] (compsA true false l) := by
  refine Spec.of (nt := 27) (res := [.tmp 2]) Try.func61 rfl (by kernel_rfl) rfl rfl rfl fun Sf => ?_
  have hl' : (l.map (compA false)).length ≤ 1099511627776 := by simpa using hl
  (repeat (first | (refine AOps.gN ?_; first | (refine AOps.g_make ?_; refine AOps.goM (.agg [iA 0, .prim (.slice none 0 0)]) fun K => ?_)) | refine WK ?_ | refine All.i fun X => ?_ | refine AllY.i fun Y => ?_))
  refine AWP.lp (fun i : Nat => ⟨[(3, .sl K 0 (l.map (compA false)).length), (9, compsA false false l), (10, iA (l.map (compA false)).length), (11, iA i)], (K, .row 71 2 (fillTo (compA false) (.agg [iA 0, .prim (.slice none 0 0)]) l i)) :: Sf⟩) (fun i => i ≤ l.length) (fun i => l.length - i) 0 (Nat.zero_le _) ?_ ⟨by (repeat (first | exact .nil | refine .cons (by first | rfl | assumption) ?_)), by rw [fillTo_zero, ← List.length_map (f := compA false)]; exact Sub.f⟩
  rintro i hi
  (repeat (first | refine WK ?_ | refine All.i fun X => ?_ | refine AllY.i fun Y => ?_))
  refine AWP.cond rfl (fun hc => ?_) (fun hc => ?_)
  · have h : i < l.length := by simpa using hc
    have hm : i < (l.map (compA false)).length := by simpa using h
    have hat := fillTo_at (compA false) (.agg [iA 0, .prim (.slice none 0 0)]) l h
    (repeat (first | refine WK ?_ | refine All.i fun X => ?_ | refine AllY.i fun Y => ?_))
    (repeat refine WF ?_); refine AWP.region_run (by kernel_rfl) (by kernel_rfl) ?_; (repeat (first | (refine RGo.gN ?_; first | (refine RGo.g_callf ?_; first | refine RGo.c1 (h := (cloneI_ps _ (by have := hv _ (List.getElem_mem h); omega))) (k := ?_))) | (refine RGo.gQ ?_; first | (refine RGo.g_callf ?_; first | refine RGo.c1 (h := (cloneI_ps _ (by have := hv _ (List.getElem_mem h); omega))) (k := ?_))) | refine RK ?_ | refine RGo.nil (by kernel_rfl) ?_))
    (repeat (first | refine WK ?_ | refine All.i fun X => ?_ | refine AllY.i fun Y => ?_))
    have hs := fillTo_set (compA false) (.agg [iA 0, .prim (.slice none 0 0)]) l h
    refine lp_nextS (i + 1) h ?_
    dsimp only
    rw [← hs]
    exact Sub.f
  · have h : l.length ≤ i := by rw [decide_eq_false_iff_not, List.length_map] at hc; omega
    rw [fillTo_all _ _ _ h]
    (repeat (first | refine WK ?_ | refine All.i fun X => ?_ | refine AllY.i fun Y => ?_))
    (refine AWP.ret ?_; (repeat (first | refine inB_r ?_ | refine andThen_r ?_)); refine retQ_r ?_)
    exact ⟨[.sl K 0 (l.map (compA false)).length], [.lst true 71 2 (l.map (compA false))], _, [], .cons (.tmp rfl) rfl .nil, .cons (.cell (.sl (p := 0) .here rfl)) .nil, by exact Sub.f, rfl, rfl⟩
end Go.Proofs.Ytanokoededdceaa

namespace Go.Proofs.Ytanokoededdceaa
set_option linter.unusedVariables false
/-- An item whose list of components is its own. -/
def itemB (x : Item) : AV := .agg [iA x.ent.n, iA x.ent.gen, compsA true false x.comps]
instance {x : Item} : Frz (itemB x) (itemA false x) := ⟨by unfold itemB itemA; exact Frz.h⟩
abbrev itemsB (o : Bool) (l : List Item) : AV := .lst o 34 3 (l.map itemB)
/-- A world whose lists are its own. -/
def wdCp (w : Wd) : AV := .agg [kindsA true true w.kinds, intsA true w.gens, itemsB true w.items]
abbrev itemZ : AV := .agg [iA 0, iA 0, .prim (.slice none 0 0)]
set_option maxRecDepth 8000 in
set_option maxHeartbeats 2000000 in
theorem copy_ps (w : Wd) (hw : WdL w) : PS Try.prog 40 [wdA false w] (wdCp w) := by
  obtain ⟨ks, gens, items⟩ := w
  obtain ⟨⟨hk0, hk1⟩, hg, hi0, hi1⟩ := hw
  dsimp only at hk0 hk1 hg hi0 hi1
  have hkc := kindCopy_ps ks hk0 hk1
  have hgc := cloneI_ps gens (by omega)
  have hgm : (gens.map iA).length = gens.length := List.length_map _
  have him : (items.map (itemA false)).length = items.length := List.length_map _
  refine Spec.of (nt := 37) (res := [.cell 2 27]) Try.func40 rfl (by kernel_rfl) rfl rfl rfl fun Sf => ?_
  (repeat refine WF ?_); refine AWP.region ?_; (repeat (first | (refine AOps.gN ?_; first | (refine AOps.g_box ?_; refine AOps.goB ?_)) | refine WO ?_ | refine All.i fun R => ?_ | refine AllY.i fun Y => ?_)); refine AOps.nil ?_; (repeat refine WN ?_)
  (repeat refine WF ?_)
  refine AWP.rs fun W3 => AWP.rs fun I => AWP.rs fun G => AWP.rs fun K => ?_
  (repeat refine WF ?_); refine AWP.region_run (by kernel_rfl) (by kernel_rfl) ?_; (repeat (first | (refine RGo.gN ?_; first | refine RGo.t1 (h := hkc) (k := ?_) | refine RGo.t1 (h := hgc) (k := ?_) | refine RGo.s (W.make rfl rfl (by exact At.f) rfl (.inl rfl) rfl rfl (Nat.le_refl _) (by rw [him]; omega) (by rw [him]; unfold maxLen; omega)) rfl ?_) | (refine RGo.gQ ?_; first | refine RGo.t1 (h := hkc) (k := ?_) | refine RGo.t1 (h := hgc) (k := ?_) | refine RGo.s (W.make rfl rfl (by exact At.f) rfl (.inl rfl) rfl rfl (Nat.le_refl _) (by rw [him]; omega) (by rw [him]; unfold maxLen; omega)) rfl ?_) | refine RK ?_ | refine RGo.nil (by kernel_rfl) ?_))
  have hz0 : List.replicate (items.map (itemA false)).length (zAV [.int .i64 0, .int .i64 0, .slice none 0 0] true) = fillTo itemB itemZ items 0 := by rw [fillTo_zero, him]; rfl
  rw [hz0]
  (repeat first | refine AOps.nil ?_ | refine WF ?_)
  (repeat refine WF ?_); refine AWP.region ?_; (repeat (first | refine WO ?_ | refine All.i fun X => ?_ | refine AllY.i fun Y => ?_)); refine AOps.nil ?_; (repeat refine WN ?_)
  (repeat first | refine AOps.nil ?_ | refine WF ?_)
  refine AWP.lp2 (fun (i : Nat) (M : List AV) => ⟨[(2, .ptr R 0 0), (3, .ptr W3 0 0), (18, itemsA false false items), (19, iA (items.map (itemA false)).length), (20, iA i)], (K, .row 67 2 (ks.map (kindA true))) :: (G, .row 3 1 (gens.map iA)) :: (I, .row 34 3 M) :: (W3, .row 27 3 [.agg [.sl K 0 (ks.map (kindA true)).length, .sl G 0 (gens.map iA).length, .sl I 0 (items.map (itemA false)).length]]) :: (R, .row 27 3 [.agg [.prim (.slice none 0 0), .prim (.slice none 0 0), .prim (.slice none 0 0)]]) :: Sf⟩) (fun i M => i ≤ items.length ∧ M = fillTo itemB itemZ items i) (fun i _ => items.length - i) 0 _ ⟨Nat.zero_le _, rfl⟩ ?_
  rintro i M ⟨hi, hM⟩
  (repeat (first | refine WK ?_ | refine All.i fun X => ?_ | refine AllY.i fun Y => ?_))
  refine AWP.cond rfl (fun hc => ?_) (fun hc => ?_)
  · have h : i < items.length := by rw [decide_eq_true_eq, him] at hc; omega
    have hset := fillTo_set itemB itemZ items h
    have hMat : M[i]? = some itemZ := by rw [hM]; exact fillTo_at _ _ _ h
    have hMl : M.length = items.length := by rw [hM]; exact fillTo_len _ _ _ _ hi
    have hcl := hi1 _ (List.getElem_mem h)
    obtain ⟨⟨⟨en, eg⟩, cs⟩, hit⟩ : ∃ it, items[i] = it := ⟨_, rfl⟩
    rw [hit] at hset hcl
    have hat : (items.map (itemA false))[i]? = some (itemA false ⟨⟨en, eg⟩, cs⟩) := by rw [List.getElem?_map, List.getElem?_eq_getElem h, hit]; rfl
    have hil : i < (items.map (itemA false)).length := by omega
    have hcc := copyComps_ps cs hcl.1 hcl.2
    have hcm : (cs.map (compA false)).length = cs.length := List.length_map _
    (repeat (first | refine WK ?_ | refine All.i fun V => ?_ | refine AllY.i fun Y => ?_))
    refine AWP.rs fun Y => ?_
    (repeat refine WF ?_); refine AWP.region_run (by kernel_rfl) (by kernel_rfl) ?_; (repeat (first | (refine RGo.gN ?_; first | refine RGo.t1 (h := hcc) (k := ?_)) | (refine RGo.gQ ?_; first | refine RGo.t1 (h := hcc) (k := ?_)) | refine RK ?_ | refine RGo.nil (by kernel_rfl) ?_))
    (repeat refine WF ?_)
    have hMs : (M.set i (.agg [iA en, iA eg, .sl Y 0 (cs.map (compA false)).length]))[i]? = some (.agg [iA en, iA eg, .sl Y 0 (cs.map (compA false)).length]) := by rw [List.getElem?_set_self (by omega)]
    refine AWP.closeIn (X := Y) (Y := I) (by exact At.f) (by exact At.f) rfl rfl (Hos.at hMs (.agg (.tail (.tail (.head .here))))) ?_
    rw [List.set_set]
    (repeat (first | refine WK ?_ | refine All.i fun X => ?_ | refine AllY.i fun Y => ?_))
    refine lp_next2 (i + 1) _ ⟨h, ?_⟩
    rw [hM]; exact hset
  · have h : i = items.length := by rw [decide_eq_false_iff_not, him] at hc; omega
    subst h
    rw [fillTo_all _ _ _ (Nat.le_refl _)] at hM
    subst hM
    have hkl : (ks.map (kindA true)).length = (ks.map (kindA true)).length := rfl
    have hI : (items.map (itemA false)).length = (items.map itemB).length := by simp
    (repeat (first | refine WK ?_ | refine All.i fun X => ?_ | refine AllY.i fun Y => ?_))
    (refine AWP.ret ?_; (repeat (first | refine inB_r ?_ | refine andThen_r ?_)); refine retQ_r ?_)
    exact ⟨[.agg [.sl K 0 (ks.map (kindA true)).length, .sl G 0 (gens.map iA).length, .sl I 0 (items.map (itemA false)).length]], [wdCp ⟨ks, gens, items⟩], _, [], .cons (.cell (p := 4) rfl (by exact At.f) TAg.h TSize.h rfl rfl) rfl .nil, .cons (.agg (.cons (.sl (p := 0) .here rfl) (.cons (.sl (p := 0) .here rfl) (.cons (.sl (p := 0) .here hI) .nil)))) .nil, by exact Sub.f, rfl, rfl⟩
end Go.Proofs.Ytanokoededdceaa

namespace Go.Proofs.Ytanokoededdceaa
set_option linter.unusedVariables false
abbrev wdE : Wd := ⟨[], [], []⟩
theorem TW.fz {a b : AV} [h : Frz a b] : TW a b [] := h.h ▸ .frz
theorem items_frzB (l : List Item) : AV.frzs (l.map itemB) = l.map (itemA false) := (inferInstance : Frzs (l.map itemB) (l.map (itemA false))).h
theorem comp_free (c : Comp) : FreeE (compA false c) := .agg fun x hx => by
  simp only [List.mem_cons, List.not_mem_nil, or_false] at hx
  rcases hx with rfl | rfl
  · exact .prim _
  · exact fun m c bs k => k.1
theorem item_free (c : Item) : FreeE (itemA false c) := .agg fun x hx => by
  simp only [List.mem_cons, List.not_mem_nil, or_false] at hx
  rcases hx with rfl | rfl | rfl
  · exact .prim _
  · exact .prim _
  · exact fun m c bs k => k.1
theorem items_free (l : List Item) : FreeL (l.map (itemA false)) := fun x hx => by obtain ⟨y, _, rfl⟩ := List.mem_map.1 hx; exact item_free y
theorem items_wid (l : List Item) : ∀ x ∈ l.map (itemA false), x.width = 3 := fun x hx => by obtain ⟨y, _, rfl⟩ := List.mem_map.1 hx; rfl
end Go.Proofs.Ytanokoededdceaa

namespace Go.Proofs.Ytanokoededdceaa
set_option linter.unusedVariables false
open Go.Sort
theorem arr_at {α : Type} [Inhabited α] (f : α → AV) {d : Array α} {i : Nat} (h : i < d.size) : (d.toList.map f)[i]? = some (f d[i]!) := by
  rw [List.getElem?_map, List.getElem?_eq_getElem (by simpa using h)]
  simp [getElem!_pos d i h]
theorem arr_swp {α : Type} [Inhabited α] (f : α → AV) {d : Array α} {i j : Nat} (hi : i < d.size) (hj : j < d.size) : ((d.toList.map f).set i (f d[j]!)).set j (f d[i]!) = (swp d i j).toList.map f := by
  unfold swp
  simp [Array.toList_setIfInBounds, List.map_set]
theorem arr_set2 {α : Type} [Inhabited α] (f : α → AV) {d : Array α} {i j : Nat} (hj : j < d.size) (x : α) : ∃ y, ((d.toList.map f).set i (f x))[j]? = some (f y) := by
  by_cases e : i = j
  · subst e; exact ⟨x, List.getElem?_set_self (by simpa using hj)⟩
  · exact ⟨d[j]!, by rw [List.getElem?_set_ne e]; exact arr_at f hj⟩
/-- The order that a comparison gives. -/
def ltOf {α : Type} (cf : α → α → Int) (x y : α) : Bool := decide (cf x y < 0)
instance : Inhabited Comp := ⟨⟨0, []⟩⟩
end Go.Proofs.Ytanokoededdceaa

namespace Go.Proofs.Ytanokoededdceaa
set_option linter.unusedVariables false
set_option linter.unusedSimpArgs false
open Go.Sort
set_option maxHeartbeats 1000000 in
theorem insC_po (f : FuncId) (cap : List AV) (cf : Comp → Comp → Int) (hst : st1s cap = true) (hcf : ∀ x y, PS Try.prog f ((compA false) x :: (compA false) y :: cap) (iA (cf x y))) (X n : Nat) (d : Array Comp) (a b : Nat) (hn : n = d.size) (hab : a ≤ b) (hb : b ≤ d.size) (hz : d.size ≤ 1099511627776) : PO Try.prog 75 [.sl X 0 n, iA a, iA b, .fn f cap] X (.row 71 2 (d.toList.map (compA false))) (.tup []) (.row 71 2 ((insertionSort (ltOf cf) d a b).toList.map (compA false))) := by
  obtain ⟨r, hr⟩ : ∃ r, insertionSort (ltOf cf) d a b = r := ⟨_, rfl⟩
  rw [hr]
  unfold insertionSort at hr
  refine Spec.of (nt := 53) (res := []) Try.func75 rfl (by kernel_rfl) rfl rfl rfl fun Sf => ?_
  (repeat (first | refine WK ?_ | refine All.i fun X => ?_ | refine AllY.i fun Y => ?_))
  refine AWP.lp2 (fun (i : Nat) (e : Array Comp) => ⟨[(0, .sl X 0 n), (1, iA a), (2, iA b), (3, .fn f cap), (8, iA i)], (X, .row 71 2 (e.toList.map (compA false))) :: Sf⟩) (fun i e => i ≤ max b (a + 1) ∧ a < i ∧ e.size = d.size ∧ insOuter (ltOf cf) a b i e = r) (fun i _ => b - i) (a + 1) d ⟨by omega, by omega, rfl, hr⟩ ?_
  rintro i e ⟨hi, hai, he, hfold⟩
  rw [insOuter] at hfold
  (repeat (first | refine WK ?_ | refine All.i fun X => ?_ | refine AllY.i fun Y => ?_))
  refine AWP.cond rfl (fun hc => ?_) (fun hc => ?_)
  · have h : i < b := by have := of_decide_eq_true hc; omega
    rw [if_pos h] at hfold
    (repeat (first | refine WK ?_ | refine All.i fun X => ?_ | refine AllY.i fun Y => ?_))
    refine AWP.lp2 (fun (j : Nat) (u : Array Comp) => ⟨[(0, .sl X 0 n), (1, iA a), (2, iA b), (3, .fn f cap), (8, iA i), (9, iA j)], (X, .row 71 2 (u.toList.map (compA false))) :: Sf⟩) (fun j u => j ≤ i ∧ u.size = d.size ∧ insInner (ltOf cf) a j u = insInner (ltOf cf) a i e) (fun j _ => j) i e ⟨Nat.le_refl _, he, rfl⟩ ?_
    rintro j u ⟨hj, hu, hin⟩
    rcases Bool.eq_false_or_eq_true (decide ((a : Int) < (j : Int))) with g | g
    · have hja : a < j := by have := of_decide_eq_true g; omega
      obtain ⟨q, rfl⟩ : ∃ q, j = q + 1 := ⟨j - 1, by omega⟩
      have h1 := arr_at (compA false) (d := u) (i := q + 1) (by omega)
      have h2 := arr_at (compA false) (d := u) (i := q) (by omega)
      have hl := hcf (u[q + 1]!) (u[q]!)
      rw [insInner] at hin
      (repeat refine WF ?_)
      (repeat refine WF ?_); refine AWP.region_run (by kernel_rfl) (by kernel_rfl) ?_; (repeat (first | (refine RGo.gN ?_; first | (refine RGo.g_callv ?_; first | refine RGo.k2 (h := (hl ..)) (k := ?_)) | refine RGo.go (h := W.subE (q : Int) (by omega) (by omega) rfl rfl) (k := ?_)) | (refine RGo.gQ ?_; first | (refine RGo.g_callv ?_; first | refine RGo.k2 (h := (hl ..)) (k := ?_)) | refine RGo.go (h := W.subE (q : Int) (by omega) (by omega) rfl rfl) (k := ?_)) | refine RK ?_ | refine RGo.nil (by kernel_rfl) ?_))
      (repeat refine WF ?_)
      refine AWP.cond rfl (fun hd => ?_) (fun hd => ?_)
      · have hd : (ltOf cf) u[q + 1]! u[q]! = true := by simpa [g, ltOf] using hd
        rw [hd, if_pos (by simp; omega)] at hin
        obtain ⟨y, hy⟩ := arr_set2 (compA false) (d := u) (i := q + 1) (j := q) (by omega) u[q]!
        (repeat refine WF ?_)
        (repeat refine WF ?_); refine AWP.region_run (by kernel_rfl) (by kernel_rfl) ?_; (repeat (first | (refine RGo.gN ?_; first | refine RGo.go (h := W.subE (q : Int) (by omega) (by omega) rfl rfl) (k := ?_) | refine RGo.s (W.store rfl rfl (by exact At.f) hy (by exact rfl)) rfl ?_) | (refine RGo.gQ ?_; first | refine RGo.go (h := W.subE (q : Int) (by omega) (by omega) rfl rfl) (k := ?_) | refine RGo.s (W.store rfl rfl (by exact At.f) hy (by exact rfl)) rfl ?_) | refine RK ?_ | refine RGo.nil (by kernel_rfl) ?_))
        (repeat (first | (refine AOps.gN ?_; first | refine AOps.p (W.subE (q : Int) (by omega) (by omega) rfl rfl) rfl ?_) | refine WK ?_ | refine All.i fun X => ?_ | refine AllY.i fun Y => ?_))
        refine lp_next2 q (swp u (q + 1) q) ⟨by omega, by rw [size_swp]; exact hu, hin⟩ (h0 := by rw [← arr_swp (compA false) (by omega) (by omega)]; exact ⟨by exact Lk.f, by exact Sub.f⟩)
      · have hd : (ltOf cf) u[q + 1]! u[q]! = false := by simpa [g, ltOf] using hd
        rw [hd, if_neg (by simp)] at hin
        (repeat (first | refine WK ?_ | refine All.i fun X => ?_ | refine AllY.i fun Y => ?_))
        refine lp_next2 (i + 1) u ⟨by omega, by omega, hu, by rw [hin]; exact hfold⟩
    · have hja : j ≤ a := by have := of_decide_eq_false g; omega
      have hin2 : insInner (ltOf cf) a j u = u := by
        cases j with
        | zero => rfl
        | succ q => rw [insInner, if_neg (by simp; omega)]
      rw [hin2] at hin
      (repeat refine WF ?_)
      (repeat refine WF ?_); refine AWP.region_run (by kernel_rfl) (by kernel_rfl) ?_; (repeat (first | refine RK ?_ | refine RGo.nil (by kernel_rfl) ?_))
      (repeat refine WF ?_)
      refine AWP.cond_f rfl (by simp [g]) ?_
      (repeat (first | refine WK ?_ | refine All.i fun X => ?_ | refine AllY.i fun Y => ?_))
      refine lp_next2 (i + 1) u ⟨by omega, by omega, hu, by rw [hin]; exact hfold⟩
  · have h : ¬ i < b := by have := of_decide_eq_false hc; omega
    rw [if_neg h] at hfold
    subst hfold
    (repeat (first | refine WK ?_ | refine All.i fun X => ?_ | refine AllY.i fun Y => ?_))
    refine retQ_n ?_
    exact Ends.void [(X, .row 71 2 (e.toList.map (compA false)))] ⟨rfl, rfl⟩
end Go.Proofs.Ytanokoededdceaa

namespace Go.Proofs.Ytanokoededdceaa
set_option linter.unusedVariables false
open Go.Sort
/-- How many bits each byte needs. -/
def lenTab : List UInt8 := (List.range 256).map fun n => UInt8.ofNat (if n = 0 then 0 else Nat.log2 n + 1)
theorem lenTab_at {n : Nat} (h : n < 256) : ((lenTab.getD n 0).toNat : Int) = bitsLen n := by
  have h1 : lenTab.getD n 0 = UInt8.ofNat (bitsLen n) := by
    unfold lenTab
    rw [List.getD_eq_getElem?_getD, List.getElem?_map, List.getElem?_range h]
    rfl
  have h2 : bitsLen n ≤ 8 := (bitsLen_le_iff n 8).2 (by omega)
  rw [h1, UInt8.toNat_ofNat']
  omega
theorem bitsLen_div256 {x : Nat} (h : 256 ≤ x) : bitsLen (x / 256) + 8 = bitsLen x := by
  have a := (bitsLen_le_iff (x / 256) (bitsLen x - 8)).2 (by
    have h1 := lt_two_pow_bitsLen x
    have h2 : 8 < bitsLen x := by
      have := (bitsLen_le_iff x 8)
      omega
    have h3 : 2 ^ bitsLen x = 2 ^ (bitsLen x - 8) * 256 := by rw [show (256 : Nat) = 2 ^ 8 from rfl, ← Nat.pow_add]; congr 1; omega
    omega)
  have b := (bitsLen_le_iff x (bitsLen (x / 256) + 8)).2 (by
    have h1 := lt_two_pow_bitsLen (x / 256)
    rw [Nat.pow_add]
    omega)
  have h2 : 8 < bitsLen x := by
    have := (bitsLen_le_iff x 8)
    omega
  omega
set_option maxRecDepth 100000 in
theorem len64_ps (x : UInt64) (hx : x.toNat < 65536) : PS Try.prog 84 [uA x] (iA (bitsLen x.toNat)) := by
  refine Spec.of (nt := 25) (res := [.tmp 2]) Try.func84 rfl (by kernel_rfl) rfl rfl rfl fun Sf => ?_
  (repeat (first | refine WK ?_ | refine All.i fun X => ?_ | refine AllY.i fun Y => ?_))
  refine AWP.cond_f rfl (decide_eq_false (by omega)) ?_
  (repeat (first | refine WK ?_ | refine All.i fun X => ?_ | refine AllY.i fun Y => ?_))
  refine AWP.cond_f rfl (decide_eq_false (by omega)) ?_
  (repeat (first | refine WK ?_ | refine All.i fun X => ?_ | refine AllY.i fun Y => ?_))
  refine AWP.joinS (fun b : UInt64 × Nat => b.1.toNat < 256 ∧ bitsLen b.1.toNat + b.2 = bitsLen x.toNat ∧ b.2 ≤ 8) (fun b => ⟨[(0, uA b.1), (2, iA b.2)], Sf⟩) ?_ ?_
  · refine AWP.cond rfl (fun h => ?_) (fun h => ?_)
    · have h : 256 ≤ x.toNat := by have := of_decide_eq_true h; omega
      have hs : (x >>> UInt64.ofNat 8).toNat = x.toNat / 256 := by
        rw [UInt64.toNat_shiftRight, UInt64.toNat_ofNat', show 8 % 2 ^ 64 % 64 = 8 from rfl, Nat.shiftRight_eq_div_pow]
      (repeat (first | (refine AOps.gN ?_; first | refine AOps.p (W.shrU 8 (by omega) rfl rfl rfl) rfl ?_) | refine WK ?_ | refine All.i fun X => ?_ | refine AllY.i fun Y => ?_))
      refine jn (x >>> UInt64.ofNat 8, 8) ⟨by dsimp only; omega, ?_, by (try dsimp only); omega⟩
      dsimp only
      rw [hs]
      exact bitsLen_div256 h
    · have h : ¬ 256 ≤ x.toNat := by have := of_decide_eq_false h; omega
      (repeat (first | refine WK ?_ | refine All.i fun X => ?_ | refine AllY.i fun Y => ?_))
      exact jn (x, 0) ⟨by dsimp only; omega, rfl, by (try dsimp only); omega⟩
  · rintro ⟨u, m⟩ ⟨h1, h2, h3⟩
    dsimp only at h1 h2 h3 ⊢
    have hw : IntKind.u8.wrap ((u.toNat : Nat) : Int) = ((u.toNat : Nat) : Int) := by rw [IntKind.wrap_u8']; omega
    have hat := lenTab_at h1
    have hb8 : bitsLen u.toNat ≤ 8 := (bitsLen_le_iff _ 8).2 (by omega)
    have hw2 : IntKind.i64.wrap ((lenTab.getD u.toNat 0).toNat : Int) = ((bitsLen u.toNat : Nat) : Int) := by rw [hat]; exact wrap_id (by omega) (by omega)
    (repeat (first | (refine AOps.gN ?_; first | refine AOps.p (W.convW .u64 .u8 _ (by kernel_rfl) (by kernel_rfl) hw rfl) rfl ?_ | refine AOps.p (W.idxStr (s := lenTab) (a := u.toNat) (by kernel_rfl) rfl rfl (by rw [lenTab_len]; exact h1)) rfl ?_ | refine AOps.p (W.convW .u8 .i64 _ (by kernel_rfl) (by kernel_rfl) hw2 rfl) rfl ?_ | refine AOps.p (W.addE ((bitsLen x.toNat : Nat) : Int) (by omega) (by omega) rfl rfl) rfl ?_) | refine WK ?_ | refine All.i fun X => ?_ | refine AllY.i fun Y => ?_))
    (refine AWP.ret ?_; (repeat (first | refine inB_r ?_ | refine andThen_r ?_)); refine retQ_r ?_); refine Ends.ps ?_
    rfl
theorem len_ps (x : UInt64) (hx : x.toNat < 65536) : PS Try.prog 72 [uA x] (iA (bitsLen x.toNat)) := by
  have h := len64_ps x hx
  refine Spec.of (nt := 8) (res := [.tmp 2]) Try.func72 rfl (by kernel_rfl) rfl rfl rfl fun Sf => ?_
  (repeat (first | refine WK ?_ | refine All.i fun X => ?_ | refine AllY.i fun Y => ?_))
  refine AWP.cond_f rfl rfl ?_
  (repeat (first | (refine AOps.gN ?_; first | (refine AOps.g_callf ?_; first | refine AOps.c1 (h := (h ..)) (k := ?_))) | refine WK ?_ | refine All.i fun X => ?_ | refine AllY.i fun Y => ?_))
  (refine AWP.ret ?_; (repeat (first | refine inB_r ?_ | refine andThen_r ?_)); refine retQ_r ?_); refine Ends.ps ?_
  rfl
end Go.Proofs.Ytanokoededdceaa

namespace Go.Proofs.Ytanokoededdceaa
set_option linter.unusedVariables false
set_option linter.unusedSimpArgs false
open Go.Sort
theorem pdqC_small (f : FuncId) (cap : List AV) (cf : Comp → Comp → Int) (hst : st1s cap = true) (hf : ∀ x y, PS Try.prog f (compA false x :: compA false y :: cap) (iA (cf x y))) (X n limit : Nat) (d : Array Comp) (hn : n = d.size) (h12 : d.size ≤ 12) : PO Try.prog 71 [.sl X 0 n, iA 0, iA n, iA limit, .fn f cap] X (.row 71 2 (d.toList.map (compA false))) (.tup []) (.row 71 2 ((insertionSort (ltOf cf) d 0 d.size).toList.map (compA false))) := by
  have hs := insC_po f cap cf hst hf X n d 0 d.size hn (Nat.zero_le _) (Nat.le_refl _) (by omega)
  rw [← hn] at hs
  have hsz : d.size = n := hn.symm
  refine Spec.of (nt := 148) (res := []) Try.func71 rfl (by kernel_rfl) rfl rfl rfl fun Sf => ?_
  (repeat (first | refine WK ?_ | refine All.i fun X => ?_ | refine AllY.i fun Y => ?_))
  refine AWP.lp (fun _ : Unit => ⟨[(0, .sl X 0 n), (1, iA 0), (2, iA n), (3, iA limit), (4, .fn f cap)], (X, .row 71 2 (d.toList.map (compA false))) :: Sf⟩) (fun _ => True) (fun _ => 0) () trivial ?_
  rintro _ _
  refine AWP.block ?_
  (repeat (first | (refine AOps.gN ?_; first | refine AOps.p (W.subE (n : Int) (by omega) (by omega) rfl rfl) rfl ?_) | refine WK ?_ | refine All.i fun X => ?_ | refine AllY.i fun Y => ?_))
  refine AWP.cond_t rfl (decide_eq_true (by omega)) ?_
  (repeat (first | (refine AOps.gN ?_; first | (refine AOps.g_callf ?_; first | refine AOps.o4 (h := (hs ..)) (k := ?_))) | refine WK ?_ | refine All.i fun X => ?_ | refine AllY.i fun Y => ?_))
  (refine AWP.ret ?_; (repeat (first | refine inB_r ?_ | refine andThen_r ?_)); refine retQ_r ?_)
  rw [hsz]
  exact Ends.void [(X, _)] ⟨rfl, rfl⟩
theorem permIn_list {α : Type} [Inhabited α] {d u : Array α} (h : PermIn 0 d.size d u) : u.toList.Perm d.toList := by
  obtain ⟨h1, _, h3⟩ := h
  have e1 : u.extract 0 d.size = u := by rw [← h1]; exact Array.extract_size
  rwa [e1, Array.extract_size] at h3
theorem sortedIn_list {α : Type} [Inhabited α] {lt : α → α → Bool} {u : Array α} {n : Nat} (hn : n = u.size) (h : SortedIn lt 0 n u) : u.toList.Pairwise fun a b => lt b a = false := by
  rw [List.pairwise_iff_getElem]
  intro i j hi hj hij
  have hi' : i < u.size := by simpa using hi
  have hj' : j < u.size := by simpa using hj
  have := h i j (Nat.zero_le _) hij (by omega)
  rw [getElem!_pos u j hj', getElem!_pos u i hi'] at this
  simpa using this
set_option maxRecDepth 8000 in
theorem sortFuncC_sp (f : FuncId) (cap : List AV) (cf : Comp → Comp → Int) (hst : st1s cap = true) (hS : SWO (ltOf cf)) (hf : ∀ x y, PS Try.prog f (compA false x :: compA false y :: cap) (iA (cf x y))) (X n : Nat) (l : List Comp) (hn : n = l.length) (h12 : l.length ≤ 12) :
    ∃ u : List Comp, (u.Perm l ∧ u.Pairwise fun a b => ltOf cf b a = false) ∧ PO Try.prog 59 [.sl X 0 n, .fn f cap] X (.row 71 2 (l.map (compA false))) (.tup []) (.row 71 2 (u.map (compA false))) := by
  obtain ⟨p1, p2⟩ := insertionSort_holds (lt := ltOf cf) hS l.toArray 0 l.toArray.size (Nat.zero_le _) (Nat.le_refl _)
  have e1 : (UInt64.ofNat n).toNat = n := by rw [UInt64.toNat_ofNat']; omega
  have hlen := len_ps (UInt64.ofNat n) (by rw [e1]; omega)
  rw [e1] at hlen
  have hs := pdqC_small f cap cf hst hf X n (bitsLen n) l.toArray (by simpa using hn) (by simpa using h12)
  obtain ⟨u, hu⟩ : ∃ u, insertionSort (ltOf cf) l.toArray 0 l.toArray.size = u := ⟨_, rfl⟩
  rw [hu] at p1 p2 hs
  refine ⟨u.toList, ⟨by simpa using permIn_list p1, sortedIn_list p1.1.symm p2⟩, ?_⟩
  simp only [List.toList_toArray] at hs
  refine Spec.of (nt := 14) (res := []) Try.func59 rfl (by kernel_rfl) rfl rfl rfl fun Sf => ?_
  (repeat (first | (refine AOps.gN ?_; first | (refine AOps.g_callf ?_; first | refine AOps.c1 (h := (hlen ..)) (k := ?_) | refine AOps.o5 (h := (hs ..)) (k := ?_)) | refine AOps.p (W.toUN .i64 n rfl (by omega) (by kernel_rfl) (by kernel_rfl) rfl) rfl ?_) | refine WK ?_ | refine All.i fun X => ?_ | refine AllY.i fun Y => ?_))
  refine retQ_n ?_
  exact Ends.void [(X, _)] ⟨rfl, rfl⟩
theorem cmpI_neg (a b : Int) : cmpI a b < 0 ↔ a < b := by
  unfold cmpI
  split
  · simp; assumption
  · split <;> simp <;> omega
theorem swo_key {α : Type} (key : α → Int) : SWO (ltOf fun x y => cmpI (key x) (key y)) where
  irrefl x := by simp only [ltOf, decide_eq_false_iff_not, cmpI_neg]; omega
  trans x y z h1 h2 := by simp only [ltOf, decide_eq_true_eq, cmpI_neg] at *; omega
  ntrans x y z h1 h2 := by simp only [ltOf, decide_eq_false_iff_not, cmpI_neg] at *; omega
end Go.Proofs.Ytanokoededdceaa

namespace Go.Proofs.Ytanokoededdceaa
set_option linter.unusedVariables false
theorem indexFuncC_ps (l : List Comp) (f : FuncId) (cap : List AV) (p : Comp → Bool) (hs : st1s cap = true) (hl : l.length ≤ 4611686018427387904) (hf : ∀ x ∈ l, PS Try.prog f ((compA false) x :: cap) (bA (p x))) : PS Try.prog 69 [.lst false 71 2 (l.map (compA false)), .fn f cap] (iA (idxF l p)) := by
  refine Spec.of (nt := 19) (res := [.tmp 4]) Try.func69 rfl (by kernel_rfl) rfl rfl rfl fun Sf => ?_
  (repeat (first | refine WK ?_ | refine All.i fun X => ?_ | refine AllY.i fun Y => ?_))
  refine AWP.lp (fun i : Nat => ⟨[(0, .lst false 71 2 (l.map (compA false))), (1, .fn f cap), (7, iA (l.map (compA false)).length), (8, iA i)], Sf⟩) (fun i => i ≤ l.length ∧ ∀ j (h : j < l.length), j < i → p l[j] = false) (fun i => l.length - i) 0 ⟨Nat.zero_le _, fun j h hj => absurd hj (by omega)⟩ ?_
  rintro i ⟨hi, he⟩
  (repeat (first | refine WK ?_ | refine All.i fun X => ?_ | refine AllY.i fun Y => ?_))
  refine AWP.cond rfl (fun hc => ?_) (fun hc => ?_)
  · have h : i < l.length := by simpa using hc
    (repeat (first | (refine AOps.gN ?_; first | (refine AOps.g_callv ?_; first | refine AOps.k1 (h := (hf _ (List.getElem_mem h))) (k := ?_))) | refine WK ?_ | refine All.i fun X => ?_ | refine AllY.i fun Y => ?_))
    refine AWP.cond rfl (fun hd => ?_) (fun hd => ?_)
    · (repeat (first | refine WK ?_ | refine All.i fun X => ?_ | refine AllY.i fun Y => ?_))
      (refine AWP.ret ?_; (repeat (first | refine inB_r ?_ | refine andThen_r ?_)); refine retQ_r ?_); refine Ends.ps ?_
      rw [idxF_some h hd fun j hj => he j (by omega) hj]
    · (repeat (first | refine WK ?_ | refine All.i fun X => ?_ | refine AllY.i fun Y => ?_))
      refine lp_next (i + 1) ⟨h, fun j h1 h2 => ?_⟩
      by_cases e : j = i
      · subst e; exact hd
      · exact he j h1 (by omega)
  · have h : ¬ i < l.length := by simpa using hc
    (repeat (first | refine WK ?_ | refine All.i fun X => ?_ | refine AllY.i fun Y => ?_))
    (refine AWP.ret ?_; (repeat (first | refine inB_r ?_ | refine andThen_r ?_)); refine retQ_r ?_); refine Ends.ps ?_
    rw [idxF_none fun j hj => he j hj (by omega)]
end Go.Proofs.Ytanokoededdceaa

namespace Go.Proofs.Ytanokoededdceaa
set_option linter.unusedVariables false
theorem containsFuncC_ps (l : List Comp) (f : FuncId) (cap : List AV) (p : Comp → Bool) (hs : st1s cap = true) (hl : l.length ≤ 4611686018427387904) (hf : ∀ x ∈ l, PS Try.prog f ((compA false) x :: cap) (bA (p x))) : PS Try.prog 56 [.lst false 71 2 (l.map (compA false)), .fn f cap] (bA (l.any p)) := by
  refine Spec.of (nt := 9) (res := [.tmp 4]) Try.func56 rfl (by kernel_rfl) rfl rfl rfl fun Sf => ?_
  (repeat (first | (refine AOps.gN ?_; first | (refine AOps.g_callf ?_; first | refine AOps.c2 (h := (indexFuncC_ps l f cap p hs hl hf)) (k := ?_))) | refine WK ?_ | refine All.i fun X => ?_ | refine AllY.i fun Y => ?_))
  (refine AWP.ret ?_; (repeat (first | refine inB_r ?_ | refine andThen_r ?_)); refine retQ_r ?_); refine Ends.ps ?_
  rw [← idxF_any]
end Go.Proofs.Ytanokoededdceaa

namespace Go.Proofs.Ytanokoededdceaa
set_option linter.unusedVariables false
open Go.Sort
theorem fit1_ps (o c : Comp) : PS Try.prog 57 [compA false o, .fp (compA false c).cells] (bA (decide (o.kind = c.kind))) := by
  refine Spec.of (nt := 9) (res := [.tmp 3]) Try.func57 rfl (by kernel_rfl) rfl rfl rfl fun Sf => ?_
  (repeat (first | (refine AOps.gN ?_; first | (refine AOps.g_box ?_; refine AOps.goB ?_)) | refine WK ?_ | refine All.i fun X => ?_ | refine AllY.i fun Y => ?_))
  (refine AWP.ret ?_; (repeat (first | refine inB_r ?_ | refine andThen_r ?_)); refine retQ_r ?_); refine Ends.ps ?_
  rfl
theorem fit2_ps (a b : Comp) : PS Try.prog 60 [compA false a, compA false b] (iA (cmpI a.kind b.kind)) := by
  refine Spec.of (nt := 10) (res := [.tmp 4]) Try.func60 rfl (by kernel_rfl) rfl rfl rfl fun Sf => ?_
  (repeat (first | (refine AOps.gN ?_; first | (refine AOps.g_callf ?_; first | refine AOps.c2 (h := (compare_ps a.kind b.kind)) (k := ?_)) | (refine AOps.g_box ?_; refine AOps.goB ?_)) | refine WK ?_ | refine All.i fun X => ?_ | refine AllY.i fun Y => ?_))
  (refine AWP.ret ?_; (repeat (first | refine inB_r ?_ | refine andThen_r ?_)); refine retQ_r ?_); refine Ends.ps ?_
  rfl
set_option maxRecDepth 8000 in
set_option maxHeartbeats 2000000 in
theorem wfit_ps (ks : List Kind) (l : List Comp) (h12 : ks.length ≤ 12) (hl : l.length ≤ 1099511627776) : PS Try.prog 38 [kindsA false false ks, compsA false false l] (.tup [compsA true false (wFit ks l).1, iA (wFit ks l).2]) := by
  have hck := check_ps ks
  obtain ⟨r, hr⟩ : ∃ r, wFit ks l = r := ⟨_, rfl⟩
  rw [hr]
  unfold wFit at hr
  have hlm : (l.map (compA false)).length = l.length := List.length_map _
  have hkm : (ks.map (kindA false)).length = ks.length := List.length_map _
  refine Spec.of (nt := 64) (res := [.tmp 4, .tmp 5]) Try.func38 rfl (by kernel_rfl) rfl rfl rfl fun Sf => ?_
  (repeat (first | (refine AOps.gN ?_; first | (refine AOps.g_callf ?_; first | refine AOps.c1 (h := (hck ..)) (k := ?_))) | refine WK ?_ | refine All.i fun X => ?_ | refine AllY.i fun Y => ?_))
  refine AWP.cond rfl (fun hc => ?_) (fun hc => ?_)
  · have hc : checkErr ks ≠ 0 := by simpa using hc
    rw [if_pos hc] at hr
    subst hr
    (repeat (first | refine WK ?_ | refine All.i fun X => ?_ | refine AllY.i fun Y => ?_))
    (refine AWP.ret ?_; (repeat (first | refine inB_r ?_ | refine andThen_r ?_)); refine retQ_r ?_)
    exact Ends.cv [.prim (.slice none 0 0), iA (checkErr ks)] [compsA true false [], iA (checkErr ks)] (.cons (.cell .nil) (.cons (.cell .same) .nil))
  have hc : checkErr ks = 0 := by simpa using hc
  rw [if_neg (by simp [hc])] at hr
  have hgo := fun h => fitGo_ok (ks := ks) (l := l) (pre := []) (out := []) h (by simp) (by simp) (by simp)
  obtain ⟨g, hg⟩ : ∃ g, fitGo ks [] [] l = g := ⟨_, rfl⟩
  rw [hg] at hr hgo
  (repeat (first | refine WK ?_ | refine All.i fun X => ?_ | refine AllY.i fun Y => ?_))
  refine AWP.adopt (d := 7) 71 2 rfl fun O => ?_
  refine AWP.lp4 (fun (q Y m : Nat) (M : List AV) => ⟨[(0, kindsA false false ks), (1, compsA false false l), (7, .sl Y 0 m), (17, compsA false false l), (18, iA (l.map (compA false)).length), (19, iA q)], (Y, .row 71 2 M) :: Sf⟩) (fun q _ m M => q ≤ l.length ∧ m = M.length ∧ m = q ∧ ∃ out : List Comp, M = out.map (compA false) ∧ fitGo ks (l.take q) out (l.drop q) = g) (fun q _ _ _ => l.length - q) 0 O 0 [] ⟨Nat.zero_le _, rfl, rfl, [], rfl, hg⟩ ?_
  rintro q Y m M ⟨hq, hm, hmq, out, hM, hfold⟩
  (repeat (first | refine WK ?_ | refine All.i fun X => ?_ | refine AllY.i fun Y => ?_))
  refine AWP.cond rfl (fun he => ?_) (fun he => ?_)
  · have h : q < l.length := by rw [decide_eq_true_eq, hlm] at he; omega
    obtain ⟨c, hcq⟩ : ∃ c, l[q] = c := ⟨_, rfl⟩
    have hat : (l.map (compA false))[q]? = some (compA false c) := by rw [List.getElem?_map, List.getElem?_eq_getElem h, hcq]; rfl
    rw [List.drop_eq_getElem_cons h, hcq, fitGo] at hfold
    have hcf := containsFuncC_ps (l.take q) 57 [.fp (compA false c).cells] (fun o => decide (o.kind = c.kind)) rfl (by rw [List.length_take]; omega) (fun o _ => fit1_ps o c)
    obtain ⟨ck, cv⟩ := c
    dsimp only at hfold hcf
    rw [List.map_take] at hcf
    (repeat (first | refine WK ?_ | refine All.i fun V => ?_ | refine AllY.i fun Y => ?_))
    refine AWP.cond rfl (fun hd => ?_) (fun hd => ?_)
    · have hb : ck < 0 ∨ (ks.length : Int) ≤ ck := by simpa using hd
      rw [if_pos hb] at hfold
      subst hfold
      rw [if_pos (by decide)] at hr
      subst hr
      (repeat (first | refine WK ?_ | refine All.i fun X => ?_ | refine AllY.i fun Y => ?_))
      (refine AWP.ret ?_; (repeat (first | refine inB_r ?_ | refine andThen_r ?_)); refine retQ_r ?_)
      exact Ends.cv [.prim (.slice none 0 0), iA 1] [compsA true false [], iA 1] (.cons (.cell .nil) (.cons (.cell .same) .nil))
    have hb : ¬ (ck < 0 ∨ (ks.length : Int) ≤ ck) := by simpa using hd
    rw [if_neg hb] at hfold
    obtain ⟨j, hj⟩ : ∃ j : Nat, ck = j := ⟨ck.toNat, by omega⟩
    subst hj
    have hjl : j < ks.length := by omega
    rw [Int.toNat_natCast, List.getElem?_eq_getElem hjl] at hfold
    obtain ⟨k, hk⟩ : ∃ k, ks[j] = k := ⟨_, rfl⟩
    rw [hk] at hfold
    dsimp only at hfold
    have hatk : (ks.map (kindA false))[j]? = some (kindA false k) := by rw [List.getElem?_map, List.getElem?_eq_getElem hjl, hk]; rfl
    have hft := fit_ps k cv
    refine AWP.iceP [9] (X := V) (by exact At.f) (b := compA false ⟨j, cv⟩) (hf := ⟨by show (AV.agg [iA (j : Int), intsA false cv]).frz = _; exact Frz.h⟩) ?_ (by intro d hd; simp only [List.mem_singleton] at hd; subst hd; rfl)
    (repeat (first | (refine AOps.gN ?_; first | (refine AOps.g_callf ?_; first | refine AOps.c2 (h := (hcf ..)) (k := ?_)) | refine AOps.p (W.hiL rfl rfl rfl (by rw [hlm]; exact hq)) rfl ?_) | refine WK ?_ | refine All.i fun X => ?_ | refine AllY.i fun Y => ?_))
    refine AWP.cond rfl (fun hd2 => ?_) (fun hd2 => ?_)
    · rw [if_pos hd2] at hfold
      subst hfold
      rw [if_pos (by decide)] at hr
      subst hr
      (repeat (first | refine WK ?_ | refine All.i fun X => ?_ | refine AllY.i fun Y => ?_))
      (refine AWP.ret ?_; (repeat (first | refine inB_r ?_ | refine andThen_r ?_)); refine retQ_r ?_)
      exact Ends.cv [.prim (.slice none 0 0), iA 5] [compsA true false [], iA 5] (.cons (.cell .nil) (.cons (.cell .same) .nil))
    rw [if_neg (by simp [hd2])] at hfold
    (repeat refine WF ?_); refine AWP.region_run (by kernel_rfl) (by kernel_rfl) ?_; (repeat (first | (refine RGo.gN ?_; first | refine RGo.c2 (h := hft) (k := ?_)) | (refine RGo.gQ ?_; first | refine RGo.c2 (h := hft) (k := ?_)) | refine RK ?_ | refine RGo.nil (by kernel_rfl) ?_))
    (repeat (first | refine WK ?_ | refine All.i fun X => ?_ | refine AllY.i fun Y => ?_))
    refine AWP.cond rfl (fun hd3 => ?_) (fun hd3 => ?_)
    · have hd3 : (fitOf k cv).2 ≠ 0 := by simpa using hd3
      rw [if_pos hd3] at hfold
      subst hfold
      rw [if_pos hd3] at hr
      subst hr
      (repeat (first | refine WK ?_ | refine All.i fun X => ?_ | refine AllY.i fun Y => ?_))
      (refine AWP.ret ?_; (repeat (first | refine inB_r ?_ | refine andThen_r ?_)); refine retQ_r ?_)
      exact Ends.cv [.prim (.slice none 0 0), iA _] [compsA true false [], iA _] (.cons (.cell .nil) (.cons (.cell .same) .nil))
    have hd3 : (fitOf k cv).2 = 0 := by simpa using hd3
    rw [if_neg (by simp [hd3])] at hfold
    have hm1 : m + 1 ≤ 1099511627776 := by omega
    (repeat (first | (refine AOps.gN ?_; first | (refine AOps.g_lit ?_; refine AOps.goL (compA false ⟨j, (fitOf k cv).1⟩) ?_)) | refine WK ?_ | refine All.i fun X => ?_ | refine AllY.i fun Y => ?_))
    refine lp_next4 (q + 1) Y (m + 1) (M ++ [compA false ⟨j, (fitOf k cv).1⟩]) ⟨h, by rw [List.length_append, hm]; rfl, by omega, out ++ [⟨j, (fitOf k cv).1⟩], by rw [hM, List.map_append]; rfl, ?_⟩
    rw [List.take_succ_eq_append_getElem h, hcq]
    exact hfold
  · have h : q = l.length := by rw [decide_eq_false_iff_not, hlm] at he; omega
    rw [h, List.take_length, List.drop_length, fitGo] at hfold
    subst hfold
    dsimp only at hr hgo
    rw [if_neg (by simp)] at hr
    subst hr
    obtain ⟨hg1, hg2⟩ := hgo rfl
    have hlen : out.length ≤ 12 := Nat.le_trans (nodup_le Comp.kind _ _ hg1 hg2) h12
    obtain ⟨u, ⟨hu1, hu2⟩, hsf⟩ := sortFuncC_sp 60 [] (fun x y => cmpI x.kind y.kind) rfl (swo_key Comp.kind) (fun x y => fit2_ps x y) Y m out (by rw [hm, hM, List.length_map]) hlen
    rw [← hM] at hsf
    (repeat (first | (refine AOps.gN ?_; first | (refine AOps.g_callf ?_; first | refine AOps.o2 (h := (hsf ..)) (k := ?_))) | refine WK ?_ | refine All.i fun X => ?_ | refine AllY.i fun Y => ?_))
    have hu : u = kSort out := kSort_uniq hg1 hu1 (hu2.imp fun {a b} hab => by simp only [ltOf, decide_eq_false_iff_not, cmpI_neg] at hab; omega)
    have hul : m = (u.map (compA false)).length := by rw [hm, hM, List.length_map, List.length_map, hu1.length_eq]
    (refine AWP.ret ?_; (repeat (first | refine inB_r ?_ | refine andThen_r ?_)); refine retQ_r ?_)
    rw [← hu]
    exact Ends.cv [.sl Y 0 m, iA 0] [compsA true false u, iA 0] (.cons (.cell (.sl (p := 0) .here hul)) (.cons (.cell .same) .nil))
end Go.Proofs.Ytanokoededdceaa

namespace Go.Proofs.Ytanokoededdceaa
set_option linter.unusedSimpArgs false
set_option linter.unusedVariables false

theorem genFields_len (i c : Nat) (l : List Int) : (genFields i c l).1.length = c := by
  induction c generalizing i l with
  | zero => rfl
  | succ c ih => simp [genFields, ih]
theorem genFields_names (i c : Nat) (l : List Int) : (genFields i c l).1.map (·.name) = (List.range' i c).map fieldName := by
  induction c generalizing i l with
  | zero => rfl
  | succ c ih =>
    have : (genField i l).1.name = fieldName i := by unfold genField; split <;> rfl
    simp [genFields, ih, List.range'_succ, this]
theorem genKindsFrom_len (k c : Nat) (l : List Int) : (genKindsFrom k c l).1.length = c := by
  induction c generalizing k l with
  | zero => rfl
  | succ c ih => simp [genKindsFrom, ih]
theorem genKindsFrom_names (k c : Nat) (l : List Int) : (genKindsFrom k c l).1.map (·.name) = (List.range' k c).map kindName := by
  induction c generalizing k l with
  | zero => rfl
  | succ c ih => simp [genKindsFrom, ih, List.range'_succ, genKind]

theorem fieldName_ok (i : Nat) : nameOk (fieldName i) = true := by
  unfold fieldName
  split <;> decide
theorem kindName_ok (i : Nat) : nameOk (kindName i) = true := by
  unfold kindName
  split <;> decide
theorem genField_ok (i : Nat) (l : List Int) : fieldErr (genField i l).1 = 0 := by
  have h1 := nextV_range l (n := 9) (by omega)
  have h2 := nextV_range (nextL l 9) (n := 40) (by omega)
  unfold genField
  split
  · simp [fieldErr, fieldName_ok]
  · simp [fieldErr, fieldName_ok]
    omega
theorem genFields_ok (i c : Nat) (l : List Int) : ∀ f ∈ (genFields i c l).1, fieldErr f = 0 := by
  induction c generalizing i l with
  | zero => intro f h; simp [genFields] at h
  | succ c ih =>
    intro f h
    simp only [genFields, List.mem_cons] at h
    rcases h with rfl | h
    · exact genField_ok i l
    · exact ih _ _ f h

theorem fieldsErr_nil0 : ∀ (fs pre : List Field), (∀ f ∈ fs, fieldErr f = 0) → ((pre ++ fs).map (·.name)).Nodup → fieldsErr pre fs = 0 := by
  intro fs
  induction fs with
  | nil => intro pre _ _; rfl
  | cons f fs ih =>
    intro pre h hn
    have h1 := h f (by simp)
    have h2 : pre.any (fun o => o.name == f.name) = false := by
      rw [List.any_eq_false]
      intro o ho
      simp only [beq_iff_eq]
      intro e
      rw [List.map_append, List.nodup_append] at hn
      exact hn.2.2 o.name (List.mem_map_of_mem ho) f.name (by simp) e
    simp only [fieldsErr, h1, h2]
    simp
    exact ih _ (fun x hx => h x (by simp [hx])) (by simpa using hn)
theorem kindsErr_zero : ∀ (ks pre : List Kind), (∀ k ∈ ks, oneErr k = 0) → ((pre ++ ks).map (·.name)).Nodup → kindsErr pre ks = 0 := by
  intro fs
  induction fs with
  | nil => intro pre _ _; rfl
  | cons f fs ih =>
    intro pre h hn
    have h1 := h f (by simp)
    have h2 : pre.any (fun o => o.name == f.name) = false := by
      rw [List.any_eq_false]
      intro o ho
      simp only [beq_iff_eq]
      intro e
      rw [List.map_append, List.nodup_append] at hn
      exact hn.2.2 o.name (List.mem_map_of_mem ho) f.name (by simp) e
    simp only [kindsErr, h1, h2]
    simp
    exact ih _ (fun x hx => h x (by simp [hx])) (by simpa using hn)
theorem fieldNames_nodup {c : Nat} (h : c ≤ 3) : ((List.range' 0 c).map fieldName).Nodup := by
  have : c = 0 ∨ c = 1 ∨ c = 2 ∨ c = 3 := by omega
  rcases this with rfl | rfl | rfl | rfl <;> decide
theorem kindNames_nodup {c : Nat} (h : c ≤ 4) : ((List.range' 0 c).map kindName).Nodup := by
  have : c = 0 ∨ c = 1 ∨ c = 2 ∨ c = 3 ∨ c = 4 := by omega
  rcases this with rfl | rfl | rfl | rfl | rfl <;> decide
theorem genKind_ok (k : Nat) (l : List Int) : oneErr (genKind k l).1 = 0 := by
  have h1 := nextV_range l (n := 3) (by omega)
  have h2 : (1 + nextV l 3).toNat ≤ 3 := by omega
  have h3 := fieldsErr_nil0 (genFields 0 (1 + nextV l 3).toNat (nextL l 3)).1 [] (genFields_ok _ _ _) (by
    rw [List.nil_append, genFields_names]
    exact fieldNames_nodup h2)
  have h4 := genFields_len 0 (1 + nextV l 3).toNat (nextL l 3)
  unfold oneErr genKind
  simp only [kindName_ok, h3, h4, if_true]
  rw [if_neg (by omega)]
theorem genKindsFrom_ok (i c : Nat) (l : List Int) : ∀ f ∈ (genKindsFrom i c l).1, oneErr f = 0 := by
  induction c generalizing i l with
  | zero => intro f h; simp [genKindsFrom] at h
  | succ c ih =>
    intro f h
    simp only [genKindsFrom, List.mem_cons] at h
    rcases h with rfl | h
    · exact genKind_ok i l
    · exact ih _ _ f h
theorem genKinds_len (l : List Int) : 1 ≤ (genKinds l).1.length ∧ (genKinds l).1.length ≤ 4 := by
  have h := nextV_range l (n := 4) (by omega)
  unfold genKinds
  rw [genKindsFrom_len]
  omega
theorem genKinds_nodup (l : List Int) : ((genKinds l).1.map (·.name)).Nodup := by
  have h := nextV_range l (n := 4) (by omega)
  unfold genKinds
  rw [genKindsFrom_names]
  exact kindNames_nodup (by omega)
theorem genKinds_ok (l : List Int) : ∀ k ∈ (genKinds l).1, oneErr k = 0 := genKindsFrom_ok _ _ _
theorem genKinds_check (l : List Int) : checkErr (genKinds l).1 = 0 := by
  unfold checkErr
  have := genKinds_len l
  rw [if_neg (by omega)]
  exact kindsErr_zero _ [] (genKinds_ok l) (genKinds_nodup l)
end Go.Proofs.Ytanokoededdceaa

namespace Go.Proofs.Ytanokoededdceaa
set_option linter.unusedVariables false
theorem near_low {f : Field} (h : fieldErr f = 0) (v : Int) : f.low ≤ nearOf f v ∧ nearOf f v ≤ highOf f := by
  have := highOf_bd h
  unfold nearOf
  rw [if_pos h]
  omega
theorem near_in {f : Field} (h : fieldErr f = 0) {v : Int} (h1 : f.low ≤ v) (h2 : v ≤ highOf f) : nearOf f v = v := by
  unfold nearOf
  rw [if_pos h]
  omega
theorem near_near {f : Field} (h : fieldErr f = 0) (v : Int) : nearOf f (nearOf f v) = nearOf f v := near_in h (near_low h v).1 (near_low h v).2
theorem near_fits {fs : List Field} (h : ∀ f ∈ fs, fieldErr f = 0) (vals : List Int) : List.zipWith nearOf fs (List.zipWith nearOf fs vals) = List.zipWith nearOf fs vals := by
  induction fs generalizing vals with
  | nil => rfl
  | cons f fs ih =>
    cases vals with
    | nil => rfl
    | cons v vals => simp [near_near (h f (by simp)), ih (fun x hx => h x (by simp [hx]))]
theorem fitOf_ok {k : Kind} (h : oneErr k = 0) {vals : List Int} (hl : vals.length = k.fields.length) : fitOf k vals = (List.zipWith nearOf k.fields vals, 0) := by
  unfold fitOf
  rw [if_neg (by simp [h]), if_neg (by simp [hl])]
theorem genKind_fields (k : Nat) (l : List Int) : (∀ f ∈ (genKind k l).1.fields, fieldErr f = 0) ∧ (genKind k l).1.fields.length ≤ 3 := by
  have h1 := nextV_range l (n := 3) (by omega)
  refine ⟨genFields_ok _ _ _, ?_⟩
  show (genFields _ _ _).1.length ≤ 3
  rw [genFields_len]
  omega
theorem genKindsFrom_fields (i c : Nat) (l : List Int) : ∀ k ∈ (genKindsFrom i c l).1, (∀ f ∈ k.fields, fieldErr f = 0) ∧ k.fields.length ≤ 3 := by
  induction c generalizing i l with
  | zero => intro f h; simp [genKindsFrom] at h
  | succ c ih =>
    intro f h
    simp only [genKindsFrom, List.mem_cons] at h
    rcases h with rfl | h
    · exact genKind_fields i l
    · exact ih _ _ f h
theorem genKinds_fields (l : List Int) : ∀ k ∈ (genKinds l).1, (∀ f ∈ k.fields, fieldErr f = 0) ∧ k.fields.length ≤ 3 := genKindsFrom_fields _ _ _
end Go.Proofs.Ytanokoededdceaa

namespace Go.Proofs.Ytanokoededdceaa
set_option linter.unusedSimpArgs false
set_option linter.unusedVariables false
/-- The values for the first i fields. -/
def vAt (fs : List Field) (l : List Int) : Nat → List Int × List Int
  | 0 => ([], l)
  | i + 1 => match fs[i]? with
    | some f => ((vAt fs l i).1 ++ [f.low + nextV (vAt fs l i).2 (2 ^ f.bits.toNat)], nextL (vAt fs l i).2 (2 ^ f.bits.toNat))
    | none => vAt fs l i
/-- The components of the first i kinds. -/
def cAt (ks : List Kind) (l : List Int) : Nat → List Comp × List Int
  | 0 => ([], l)
  | i + 1 => match ks[i]? with
    | some k => if nextV (cAt ks l i).2 3 = 2 then ((cAt ks l i).1, nextL (cAt ks l i).2 3)
      else ((cAt ks l i).1 ++ [⟨i, (vAt k.fields (nextL (cAt ks l i).2 3) k.fields.length).1⟩], (vAt k.fields (nextL (cAt ks l i).2 3) k.fields.length).2)
    | none => cAt ks l i
def genComps (ks : List Kind) (l : List Int) : List Comp × List Int := cAt ks l ks.length
/-- The generations and items of the first i slots. -/
def wAt (ks : List Kind) (l : List Int) : Nat → List Int × List Item × List Int
  | 0 => ([], [], l)
  | i + 1 =>
    if nextV (nextL (wAt ks l i).2.2 3) 4 = 3 ∨ (wAt ks l i).2.1.length = 8 then ((wAt ks l i).1 ++ [nextV (wAt ks l i).2.2 3], (wAt ks l i).2.1, nextL (nextL (wAt ks l i).2.2 3) 4)
    else ((wAt ks l i).1 ++ [nextV (wAt ks l i).2.2 3], (wAt ks l i).2.1 ++ [⟨⟨i, nextV (wAt ks l i).2.2 3⟩, (genComps ks (nextL (nextL (wAt ks l i).2.2 3) 4)).1⟩], (genComps ks (nextL (nextL (wAt ks l i).2.2 3) 4)).2)
def genWorld (l : List Int) : Wd :=
  ⟨(genKinds l).1, (wAt (genKinds l).1 (nextL (genKinds l).2 12) (nextV (genKinds l).2 12).toNat).1, (wAt (genKinds l).1 (nextL (genKinds l).2 12) (nextV (genKinds l).2 12).toNat).2.1⟩
/-- Fields whose values are small numbers. -/
def FieldOK (f : Field) : Prop := 0 ≤ f.bits ∧ f.bits ≤ 32 ∧ -2147483648 ≤ f.low ∧ f.low ≤ 2147483648
def KindsOK (ks : List Kind) : Prop := ks.length ≤ 1099511627776 ∧ ∀ k ∈ ks, k.fields.length ≤ 1099511627776 ∧ ∀ f ∈ k.fields, FieldOK f
end Go.Proofs.Ytanokoededdceaa

namespace Go.Proofs.Ytanokoededdceaa
set_option linter.unusedVariables false
theorem vAt_len (fs : List Field) (l : List Int) (i : Nat) : (vAt fs l i).1.length ≤ i := by
  induction i with
  | zero => simp [vAt]
  | succ i ih => rw [vAt]; split <;> (try simp only [List.length_append, List.length_singleton]) <;> omega
theorem cAt_len (ks : List Kind) (l : List Int) (i : Nat) : (cAt ks l i).1.length ≤ i := by
  induction i with
  | zero => simp [cAt]
  | succ i ih => rw [cAt]; split <;> (try split) <;> (try simp only [List.length_append, List.length_singleton]) <;> omega
theorem vAt_next {fs : List Field} {l : List Int} {i : Nat} (h : i < fs.length) : vAt fs l (i + 1) = ((vAt fs l i).1 ++ [fs[i].low + nextV (vAt fs l i).2 (2 ^ fs[i].bits.toNat)], nextL (vAt fs l i).2 (2 ^ fs[i].bits.toNat)) := by
  rw [vAt, List.getElem?_eq_getElem h]
theorem cAt_no {ks : List Kind} {l : List Int} {i : Nat} (h : i < ks.length) (h2 : nextV (cAt ks l i).2 3 = 2) : cAt ks l (i + 1) = ((cAt ks l i).1, nextL (cAt ks l i).2 3) := by
  rw [cAt, List.getElem?_eq_getElem h]; simp only; rw [if_pos h2]
theorem cAt_yes {ks : List Kind} {l : List Int} {i : Nat} (h : i < ks.length) (h2 : nextV (cAt ks l i).2 3 ≠ 2) : cAt ks l (i + 1) = ((cAt ks l i).1 ++ [⟨i, (vAt ks[i].fields (nextL (cAt ks l i).2 3) ks[i].fields.length).1⟩], (vAt ks[i].fields (nextL (cAt ks l i).2 3) ks[i].fields.length).2) := by
  rw [cAt, List.getElem?_eq_getElem h]; simp only; rw [if_neg h2]
theorem pow_small {b : Nat} (h : b ≤ 32) : (1 : Int) ≤ 2 ^ b ∧ (2 : Int) ^ b ≤ 4294967296 := by
  have h1 : (2 : Nat) ^ b ≤ 2 ^ 32 := Nat.pow_le_pow_right (by decide) h
  have h2 : 0 < (2 : Nat) ^ b := Nat.pow_pos (by decide)
  have h3 : ((2 : Int) ^ b) = (((2 : Nat) ^ b : Nat) : Int) := by simp
  rw [h3]
  have : (2 : Nat) ^ 32 = 4294967296 := by decide
  omega
theorem comps_po (G : Nat) (ks : List Kind) (l : List Int) (hk : KindsOK ks) : PO Try.prog 26 [kindsA false false ks, .ptr G 0 0] G (streamO l) (compsA true false (genComps ks l).1) (streamO (genComps ks l).2) := by
  refine Spec.of (nt := 50) (res := [.tmp 4]) Try.func26 rfl (by kernel_rfl) rfl rfl rfl fun Sf => ?_
  obtain ⟨hk0, hk1⟩ := hk
  (repeat refine WF ?_); refine AWP.region ?_; (repeat (first | refine WO ?_ | refine All.i fun X => ?_ | refine AllY.i fun Y => ?_)); refine AOps.nil ?_; (repeat refine WN ?_)
  (repeat refine WF ?_); refine AWP.region ?_; (repeat (first | refine WO ?_ | refine All.i fun X => ?_ | refine AllY.i fun Y => ?_)); refine AOps.nil ?_; (repeat refine WN ?_)
  (repeat refine WF ?_); refine AWP.region ?_; (repeat (first | refine WO ?_ | refine All.i fun X => ?_ | refine AllY.i fun Y => ?_)); refine AOps.nil ?_; (repeat refine WN ?_)
  (repeat first | refine AOps.nil ?_ | refine WF ?_)
  refine AWP.adopt (d := 5) 71 2 rfl fun K => ?_
  refine AWP.lp5 (fun (i K : Nat) (M : List AV) (n : Nat) (q : List Int) => ⟨[(1, .ptr G 0 0), (5, .sl K 0 n), (11, kindsA false false ks), (12, iA (ks.map (kindA false)).length), (13, iA i)], (K, .row 71 2 M) :: (G, streamO q) :: Sf⟩) (fun i _ M n q => i ≤ ks.length ∧ M = (cAt ks l i).1.map (compA false) ∧ n = M.length ∧ q = (cAt ks l i).2) (fun i _ _ _ _ => ks.length - i) 0 K [] 0 l ⟨Nat.zero_le _, rfl, rfl, rfl⟩ ?_
  rintro i K M n q ⟨hi, hM, hn, hq⟩
  (repeat (first | refine WK ?_ | refine All.i fun X => ?_ | refine AllY.i fun Y => ?_))
  refine AWP.cond rfl (fun hc => ?_) (fun hc => ?_)
  · have h : i < ks.length := by simpa using hc
    obtain ⟨hf0, hf1⟩ := hk1 _ (List.getElem_mem h)
    have h3 := nextV_range q (n := 3) (by decide)
    have hn1 : n + 1 ≤ 1099511627776 := by have := cAt_len ks l i; rw [hn, hM, List.length_map]; omega
    (repeat (first | (refine AOps.gN ?_; first | (refine AOps.g_callf ?_; first | refine AOps.o2 (h := (next_po G _ _ (by decide))) (k := ?_))) | refine WK ?_ | refine All.i fun X => ?_ | refine AllY.i fun Y => ?_))
    refine AWP.cond rfl (fun he => ?_) (fun he => ?_)
    · have he : nextV q 3 = 2 := by simpa using he
      (repeat (first | refine WK ?_ | refine All.i fun X => ?_ | refine AllY.i fun Y => ?_))
      refine lp_next5 (i + 1) K M n _ ⟨h, ?_, hn, ?_⟩
      · rw [cAt_no h (hq ▸ he), hM]
      · rw [cAt_no h (hq ▸ he), hq]
    · have he : nextV q 3 ≠ 2 := by simpa using he
      (repeat refine WF ?_); refine AWP.region ?_; (repeat (first | refine WO ?_ | refine All.i fun Y => ?_ | refine AllY.i fun Y => ?_)); refine AOps.nil ?_; (repeat refine WN ?_)
      refine AWP.adoptIn (Y := Y) 3 1 .here (fun F => .cons (.agg (.cons .same (.cons (.base .nil) .nil))) .nil) fun F => ?_
      (repeat (first | refine WK ?_ | refine All.i fun X => ?_ | refine AllY.i fun Y => ?_))
      obtain ⟨fs, hfs⟩ : ∃ fs, ks[i].fields = fs := ⟨_, rfl⟩
      obtain ⟨q1, hq1⟩ : ∃ q1, nextL q 3 = q1 := ⟨_, rfl⟩
      rw [hq1, hfs]
      have hck : cAt ks l (i + 1) = ((cAt ks l i).1 ++ [⟨i, (vAt fs q1 fs.length).1⟩], (vAt fs q1 fs.length).2) := by rw [cAt_yes h (hq ▸ he), ← hq, hq1, hfs]
      rw [hfs] at hf0 hf1
      refine AWP.lp5 (fun (j F : Nat) (L : List AV) (m : Nat) (r : List Int) => ⟨[(1, .ptr G 0 0), (5, .sl K 0 n), (6, iA i), (8, .ptr Y 0 0), (11, kindsA false false ks), (12, iA (ks.map (kindA false)).length), (13, iA i), (24, fieldsA false fs), (25, iA (fs.map fieldA).length), (26, iA j)], (F, .row 3 1 L) :: (Y, .row 71 2 [.agg [iA i, .sl F 0 m]]) :: (K, .row 71 2 M) :: (G, streamO r) :: Sf⟩) (fun j _ L m r => j ≤ fs.length ∧ L = (vAt fs q1 j).1.map iA ∧ m = L.length ∧ r = (vAt fs q1 j).2) (fun j _ _ _ _ => fs.length - j) 0 F [] 0 q1 ⟨Nat.zero_le _, rfl, rfl, rfl⟩ ?_
      rintro j F L m r ⟨hj, hL, hm, hr⟩
      (repeat (first | refine WK ?_ | refine All.i fun X => ?_ | refine AllY.i fun Y => ?_))
      refine AWP.cond rfl (fun hd => ?_) (fun hd => ?_)
      · have hj' : j < fs.length := by simpa using hd
        obtain ⟨hb0, hb1, hl0, hl1⟩ := hf1 _ (List.getElem_mem hj')
        obtain ⟨b, hb⟩ : ∃ b : Nat, fs[j].bits = b := ⟨fs[j].bits.toNat, by omega⟩
        have hp := pow_small (b := b) (by omega)
        have hw : IntKind.i64.wrap (1 * 2 ^ b) = 2 ^ b := by rw [Int.one_mul]; exact wrap_id (by omega) (by omega)
        have hv := nextV_range r (n := IntKind.i64.wrap (1 * 2 ^ b)) (by omega)
        have hm1 : m + 1 ≤ 1099511627776 := by have := vAt_len fs q1 j; rw [hm, hL, List.length_map]; omega
        (repeat (first | refine WK ?_ | refine All.i fun Z => ?_ | refine AllY.i fun Y => ?_))
        refine AWP.rs fun X7 => ?_
        (repeat refine WF ?_); refine AWP.region_run (by kernel_rfl) (by kernel_rfl) ?_; (repeat (first | (refine RGo.gN ?_; first | (refine RGo.g_callf ?_; first | refine RGo.o2 (h := (next_po G _ _ (by rw [hw]; omega))) (k := ?_)) | refine RGo.p (W.shl rfl rfl hb (by show b ≤ 64; omega)) rfl ?_ | refine RGo.p (W.add rfl rfl (by omega)) rfl ?_) | (refine RGo.gQ ?_; first | (refine RGo.g_callf ?_; first | refine RGo.o2 (h := (next_po G _ _ (by rw [hw]; omega))) (k := ?_)) | refine RGo.p (W.shl rfl rfl hb (by show b ≤ 64; omega)) rfl ?_ | refine RGo.p (W.add rfl rfl (by omega)) rfl ?_) | refine RK ?_ | refine RGo.nil (by kernel_rfl) ?_))
        (repeat (first | refine WK ?_ | refine All.i fun X => ?_ | refine AllY.i fun Y => ?_))
        have hva : vAt fs q1 (j + 1) = ((vAt fs q1 j).1 ++ [fs[j].low + nextV r (IntKind.i64.wrap (1 * 2 ^ b))], nextL r (IntKind.i64.wrap (1 * 2 ^ b))) := by rw [vAt_next hj', ← hr, hw, hb]; rfl
        refine lp_next5 (j + 1) X7 _ _ _ ⟨hj', ?_, ?_, ?_⟩
        · rw [hva, hL, List.map_append]; rfl
        · rw [List.length_append, hm]
        · rw [hva]
      · have hj' : j = fs.length := by rw [decide_eq_false_iff_not, List.length_map] at hd; omega
        subst hj'
        (repeat first | refine AOps.nil ?_ | refine WF ?_)
        refine AWP.iceIn (X := F) (Y := Y) .here (.next .here) rfl (.cons (.agg (.cons .same (.cons (.base (.sl (by omega))) .nil))) .nil) ?_
        have hF : AV.frzs ((L.drop 0).take m) = (vAt fs q1 fs.length).1.map iA := by
          rw [List.drop_zero, List.take_of_length_le (by omega), hL]
          exact Frzs.h
        rw [hF]
        (repeat (first | (refine AOps.gN ?_; first | (refine AOps.g_lit ?_; refine AOps.goL (compA false ⟨i, (vAt fs q1 fs.length).1⟩) ?_)) | refine WK ?_ | refine All.i fun X => ?_ | refine AllY.i fun Y => ?_))
        refine lp_next5 (i + 1) Y _ _ _ ⟨h, ?_, ?_, ?_⟩
        · rw [hck, hM, List.map_append]; rfl
        · rw [List.length_append, hn]
        · rw [hck, hr]
  · have h : i = ks.length := by rw [decide_eq_false_iff_not, List.length_map] at hc; omega
    subst h
    (repeat (first | refine WK ?_ | refine All.i fun X => ?_ | refine AllY.i fun Y => ?_))
    (refine AWP.ret ?_; (repeat (first | refine inB_r ?_ | refine andThen_r ?_)); refine retQ_r ?_)
    subst hM hq
    exact ⟨[.sl K 0 n], [.lst true 71 2 ((cAt ks l ks.length).1.map (compA false))], _, [(G, streamO (cAt ks l ks.length).2)], .cons (.tmp rfl) rfl .nil, .cons (.cell (.sl (p := 0) .here hn)) .nil, by exact Sub.f, rfl, rfl⟩
theorem wAt_len1 (ks : List Kind) (l : List Int) (i : Nat) : (wAt ks l i).1.length = i := by
  induction i with
  | zero => rfl
  | succ i ih => rw [wAt]; split <;> simp [ih]
theorem wAt_len2 (ks : List Kind) (l : List Int) (i : Nat) : (wAt ks l i).2.1.length ≤ i := by
  induction i with
  | zero => simp [wAt]
  | succ i ih => rw [wAt]; split <;> (try simp only [List.length_append, List.length_singleton]) <;> omega
/-- A made world: its lists of generations and items are its own. -/
def wdO (w : Wd) : AV := .agg [kindsA false false w.kinds, intsA true w.gens, itemsA true false w.items]
instance {w : Wd} : Frz (wdO w) (wdA false w) := ⟨by unfold wdO wdA; exact Frz.h⟩
theorem genField_rng (i : Nat) (l : List Int) : FieldOK (genField i l).1 := by
  have h9 := nextV_range l (n := 9) (by decide)
  have h40 := nextV_range (nextL l 9) (n := 40) (by decide)
  unfold genField
  split <;> refine ⟨?_, ?_, ?_, ?_⟩ <;> simp <;> omega
theorem fAt_rng (i : Nat) (l : List Int) : ∀ f ∈ (fAt i l).1, FieldOK f := by
  induction i with
  | zero => intro f hf; cases hf
  | succ i ih =>
    intro f hf
    rcases List.mem_append.1 hf with hf | hf
    · exact ih f hf
    · rw [List.mem_singleton.1 hf]; exact genField_rng _ _
theorem genKind_rng (k : Nat) (l : List Int) : (genKind k l).1.fields.length ≤ 3 ∧ ∀ f ∈ (genKind k l).1.fields, FieldOK f := by
  have h := nextV_range l (n := 3) (by decide)
  show (genFields 0 (1 + nextV l 3).toNat (nextL l 3)).1.length ≤ 3 ∧ ∀ f ∈ (genFields 0 (1 + nextV l 3).toNat (nextL l 3)).1, FieldOK f
  rw [genFields_at]
  exact ⟨by rw [fAt_len]; omega, fAt_rng _ _⟩
theorem kAt_rng (i : Nat) (l : List Int) : ∀ k ∈ (kAt i l).1, k.fields.length ≤ 3 ∧ ∀ f ∈ k.fields, FieldOK f := by
  induction i with
  | zero => intro f hf; cases hf
  | succ i ih =>
    intro f hf
    rcases List.mem_append.1 hf with hf | hf
    · exact ih f hf
    · rw [List.mem_singleton.1 hf]; exact genKind_rng _ _
theorem genKinds_cnt (l : List Int) : (genKinds l).1.length = (1 + nextV l 4).toNat := by rw [genKinds_at, kAt_len]
theorem genKinds_rng (l : List Int) : KindsOK (genKinds l).1 := by
  have h := nextV_range l (n := 4) (by decide)
  refine ⟨by rw [genKinds_cnt]; omega, ?_⟩
  rw [genKinds_at]
  intro k hk
  have := kAt_rng _ _ k hk
  exact ⟨by omega, this.2⟩
theorem world_ps (l : List Int) : PS Try.prog 6 [intsA false l] (wdO (genWorld l)) := by
  refine Spec.of (nt := 52) (res := [.cell 2 27]) Try.func6 rfl (by kernel_rfl) rfl rfl rfl fun Sf => ?_
  have hko := genKinds_rng l
  obtain ⟨ks, hks⟩ : ∃ ks, (genKinds l).1 = ks := ⟨_, rfl⟩
  obtain ⟨l1, hl1⟩ : ∃ l1, (genKinds l).2 = l1 := ⟨_, rfl⟩
  have h12 := nextV_range l1 (n := 12) (by decide)
  obtain ⟨c, hc⟩ : ∃ c : Nat, nextV l1 12 = c := ⟨(nextV l1 12).toNat, by omega⟩
  obtain ⟨l2, hl2⟩ : ∃ l2, nextL l1 12 = l2 := ⟨_, rfl⟩
  have hg : genWorld l = ⟨ks, (wAt ks l2 c).1, (wAt ks l2 c).2.1⟩ := by unfold genWorld; rw [hks, hl1, hl2, hc]; rfl
  have hkp := fun G => kinds_po G l
  rw [hks, hl1] at hkp
  rw [hks] at hko
  rw [hg]
  clear hg hks hl1
  (repeat refine WF ?_); refine AWP.region ?_; (repeat (first | refine WO ?_ | refine All.i fun R => ?_ | refine AllY.i fun Y => ?_)); refine AOps.nil ?_; (repeat refine WN ?_)
  (repeat refine WF ?_); refine AWP.region ?_; (repeat (first | refine WO ?_ | refine All.i fun G => ?_ | refine AllY.i fun Y => ?_)); refine AOps.nil ?_; (repeat refine WN ?_)
  (repeat refine WF ?_); refine AWP.region ?_; (repeat (first | (refine AOps.gN ?_; first | (refine AOps.g_callf ?_; first | refine AOps.o1 (h := (hkp G)) (k := ?_))) | refine WO ?_ | refine All.i fun V => ?_ | refine AllY.i fun Y => ?_)); refine AOps.nil ?_; (repeat refine WN ?_)
  (repeat refine WF ?_); refine AWP.region ?_; (repeat (first | (refine AOps.gN ?_; first | (refine AOps.g_callf ?_; first | refine AOps.o2 (h := (next_po G _ _ (by decide))) (k := ?_))) | refine WO ?_ | refine All.i fun X => ?_ | refine AllY.i fun Y => ?_)); refine AOps.nil ?_; (repeat refine WN ?_)
  rw [hl2, hc]
  refine AWP.adoptIn (Y := V) 34 3 (by exact At.f) (fun F => .cons (.agg (.cons .same (.cons .same (.cons (.base .nil) .nil)))) .nil) fun B => ?_
  refine AWP.adoptIn (Y := V) 3 1 (by exact At.f) (fun F => .cons (.agg (.cons .same (.cons (.base .nil) (.cons .same .nil)))) .nil) fun A => ?_
  (repeat first | refine AOps.nil ?_ | refine WF ?_)
  refine AWP.lp7 (fun (i A B : Nat) (L M : List AV) (n : Nat) (q : List Int) => ⟨[(2, .ptr R 0 0), (3, .ptr G 0 0), (4, .ptr V 0 0), (13, iA c), (14, iA i)], (A, .row 3 1 L) :: (B, .row 34 3 M) :: (V, .row 27 3 [.agg [kindsA false false ks, .sl A 0 i, .sl B 0 n]]) :: (G, streamO q) :: (R, .row 27 3 [.agg [.prim (.slice none 0 0), .prim (.slice none 0 0), .prim (.slice none 0 0)]]) :: Sf⟩) (fun i _ _ L M n q => i ≤ c ∧ L = (wAt ks l2 i).1.map iA ∧ M = (wAt ks l2 i).2.1.map (itemA false) ∧ n = M.length ∧ q = (wAt ks l2 i).2.2) (fun i _ _ _ _ _ _ => c - i) 0 A B [] [] 0 l2 ⟨Nat.zero_le _, rfl, rfl, rfl, rfl⟩ ?_
  rintro i A B L M n q ⟨hi, hL, hM, hn, hq⟩
  have hA := wAt_len1 ks l2 i
  have hB := wAt_len2 ks l2 i
  (repeat (first | refine WK ?_ | refine All.i fun X => ?_ | refine AllY.i fun Y => ?_))
  refine AWP.cond rfl (fun hd => ?_) (fun hd => ?_)
  · have h : i < c := by rw [decide_eq_true_eq] at hd; omega
    have h3 := nextV_range q (n := 3) (by decide)
    have h4 := nextV_range (nextL q 3) (n := 4) (by decide)
    (repeat refine WF ?_); refine AWP.region ?_; (repeat (first | refine WO ?_ | refine All.i fun X => ?_ | refine AllY.i fun Y => ?_)); refine AOps.nil ?_; (repeat refine WN ?_)
    refine AWP.rs fun X7 => ?_
    (repeat refine WF ?_); refine AWP.region_run (by kernel_rfl) (by kernel_rfl) ?_; (repeat (first | (refine RGo.gN ?_; first | (refine RGo.g_callf ?_; first | refine RGo.o2 (h := (next_po G _ _ (by decide))) (k := ?_))) | (refine RGo.gQ ?_; first | (refine RGo.g_callf ?_; first | refine RGo.o2 (h := (next_po G _ _ (by decide))) (k := ?_))) | refine RK ?_ | refine RGo.nil (by kernel_rfl) ?_))
    (repeat (first | (refine AOps.gN ?_; first | (refine AOps.g_callf ?_; first | refine AOps.o2 (h := (next_po G _ _ (by decide))) (k := ?_))) | refine WK ?_ | refine All.i fun X => ?_ | refine AllY.i fun Y => ?_))
    have hLl : L.length = i := by rw [hL, List.length_map, hA]
    obtain ⟨IT, hIT⟩ : ∃ IT, (wAt ks l2 i).2.1 = IT := ⟨_, rfl⟩
    rw [hIT] at hM hB
    have hnl : n = IT.length := by rw [hn, hM, List.length_map]
    have hat : (L ++ [.prim (.int .i64 (nextV q 3))])[i]? = some (.prim (.int .i64 (nextV q 3))) := by rw [← hLl]; simp
    refine AWP.cond rfl (fun he => ?_) (fun he => ?_)
    · have he : nextV (nextL q 3) 4 = 3 ∨ n = 8 := by rw [Bool.or_eq_true, decide_eq_true_eq, decide_eq_true_eq] at he; omega
      have hw : wAt ks l2 (i + 1) = ((wAt ks l2 i).1 ++ [nextV q 3], IT, nextL (nextL q 3) 4) := by rw [wAt, ← hq, hIT, ← hnl, if_pos he]
      (repeat (first | refine WK ?_ | refine All.i fun X => ?_ | refine AllY.i fun Y => ?_))
      refine lp_next7 (i + 1) X7 B _ M n _ ⟨h, ?_, ?_, hn, ?_⟩
      · rw [hw, hL, List.map_append]; rfl
      · rw [hw, hM]
      · rw [hw]
    · have he : ¬ (nextV (nextL q 3) 4 = 3 ∨ n = 8) := by rw [Bool.or_eq_false_iff, decide_eq_false_iff_not, decide_eq_false_iff_not] at he; omega
      have hw : wAt ks l2 (i + 1) = ((wAt ks l2 i).1 ++ [nextV q 3], IT ++ [⟨⟨i, nextV q 3⟩, (genComps ks (nextL (nextL q 3) 4)).1⟩], (genComps ks (nextL (nextL q 3) 4)).2) := by rw [wAt, ← hq, hIT, ← hnl, if_neg he]
      have hin : i < i + [AV.prim (.int .i64 (nextV q 3))].length := Nat.lt_succ_self i
      refine AWP.rs fun X8 => ?_
      (repeat refine WF ?_); refine AWP.region_run (by kernel_rfl) (by kernel_rfl) ?_; (repeat (first | (refine RGo.gN ?_; first | (refine RGo.g_callf ?_; first | refine RGo.o2 (h := (comps_po G ks _ hko)) (k := ?_)) | (refine RGo.g_lit ?_; refine RGo.goL (itemA false ⟨⟨i, nextV q 3⟩, (genComps ks (nextL (nextL q 3) 4)).1⟩) ?_)) | (refine RGo.gQ ?_; first | (refine RGo.g_callf ?_; first | refine RGo.o2 (h := (comps_po G ks _ hko)) (k := ?_)) | (refine RGo.g_lit ?_; refine RGo.goL (itemA false ⟨⟨i, nextV q 3⟩, (genComps ks (nextL (nextL q 3) 4)).1⟩) ?_)) | refine RK ?_ | refine RGo.nil (by kernel_rfl) ?_))
      (repeat (first | refine WK ?_ | refine All.i fun X => ?_ | refine AllY.i fun Y => ?_))
      refine lp_next7 (i + 1) X7 X8 _ _ _ _ ⟨h, ?_, ?_, ?_, ?_⟩
      · rw [hw, hL, List.map_append]; rfl
      · rw [hw, hM, List.map_append]; rfl
      · rw [List.length_append, hn]
      · rw [hw]
  · have h : i = c := by rw [decide_eq_false_iff_not] at hd; omega
    subst h
    (repeat (first | refine WK ?_ | refine All.i fun X => ?_ | refine AllY.i fun Y => ?_))
    (refine AWP.ret ?_; (repeat (first | refine inB_r ?_ | refine andThen_r ?_)); refine retQ_r ?_)
    subst hL hM
    have hA : i = ((wAt ks l2 i).1.map iA).length := by rw [List.length_map, hA]
    exact ⟨[.agg [kindsA false false ks, .sl A 0 i, .sl B 0 n]], [wdO ⟨ks, (wAt ks l2 i).1, (wAt ks l2 i).2.1⟩], _, [], .cons (.cell (p := 4) rfl (by exact At.f) TAg.h TSize.h rfl rfl) rfl .nil, .cons (.agg (.cons .same (.cons (.sl (p := 0) .here hA) (.cons (.sl (p := 0) .here hn) .nil)))) .nil, by exact Sub.f, rfl, rfl⟩
end Go.Proofs.Ytanokoededdceaa

namespace Go.Proofs.Ytanokoededdceaa
set_option linter.unusedVariables false
theorem cAt_mem {ks : List Kind} {l : List Int} {i : Nat} {c : Comp} (h : c ∈ (cAt ks l i).1) : ∃ (j : Nat) (hj : j < ks.length) (q : List Int), j < i ∧ c = ⟨j, (vAt ks[j].fields q ks[j].fields.length).1⟩ := by
  induction i with
  | zero => cases h
  | succ i ih =>
    by_cases hi : i < ks.length
    · by_cases h2 : nextV (cAt ks l i).2 3 = 2
      · rw [cAt_no hi h2] at h
        obtain ⟨j, hj, q, h3, h4⟩ := ih h
        exact ⟨j, hj, q, by omega, h4⟩
      · rw [cAt_yes hi h2] at h
        rcases List.mem_append.1 h with h | h
        · obtain ⟨j, hj, q, h3, h4⟩ := ih h
          exact ⟨j, hj, q, by omega, h4⟩
        · rw [List.mem_singleton.1 h]
          exact ⟨i, hi, _, by omega, rfl⟩
    · rw [cAt, List.getElem?_eq_none (by omega)] at h
      obtain ⟨j, hj, q, h3, h4⟩ := ih h
      exact ⟨j, hj, q, by omega, h4⟩
theorem wAt_mem {ks : List Kind} {l : List Int} {i : Nat} {it : Item} (h : it ∈ (wAt ks l i).2.1) : ∃ (j : Nat) (q : List Int), j < i ∧ (wAt ks l i).1[j]? = some it.ent.gen ∧ it.ent.n = j ∧ it.comps = (genComps ks q).1 := by
  induction i with
  | zero => cases h
  | succ i ih =>
    have hl := wAt_len1 ks l i
    have hup : ∀ (x : Int) (g : Int) (j : Nat), (wAt ks l i).1[j]? = some g → ((wAt ks l i).1 ++ [x])[j]? = some g := fun x g j hg => by
      rw [List.getElem?_append_left (List.getElem?_eq_some_iff.1 hg).1, hg]
    rw [wAt] at h ⊢
    split
    · rename_i hs
      rw [if_pos hs] at h
      obtain ⟨j, q, h1, h2, h3, h4⟩ := ih h
      exact ⟨j, q, by omega, hup _ _ _ h2, h3, h4⟩
    · rename_i hs
      rw [if_neg hs] at h
      rcases List.mem_append.1 h with h | h
      · obtain ⟨j, q, h1, h2, h3, h4⟩ := ih h
        exact ⟨j, q, by omega, hup _ _ _ h2, h3, h4⟩
      · rw [List.mem_singleton.1 h]
        exact ⟨i, _, by omega, by rw [List.getElem?_append_right (by omega), hl]; simp, rfl, rfl⟩
theorem genKinds_small (l : List Int) : (genKinds l).1.length ≤ 4 ∧ ∀ k ∈ (genKinds l).1, k.fields.length ≤ 3 := by
  have h := nextV_range l (n := 4) (by decide)
  refine ⟨by rw [genKinds_cnt]; omega, ?_⟩
  rw [genKinds_at]
  intro k hk
  exact (kAt_rng _ _ k hk).1
theorem genWorld_small (l : List Int) : (genWorld l).items.length ≤ 12 ∧ (genWorld l).gens.length ≤ 12 ∧ ∀ it ∈ (genWorld l).items, it.comps.length ≤ 4 ∧ ∀ c ∈ it.comps, c.vals.length ≤ 3 := by
  have h := nextV_range (genKinds l).2 (n := 12) (by decide)
  have h1 := wAt_len2 (genKinds l).1 (nextL (genKinds l).2 12) (nextV (genKinds l).2 12).toNat
  have h2 := wAt_len1 (genKinds l).1 (nextL (genKinds l).2 12) (nextV (genKinds l).2 12).toNat
  obtain ⟨h3, h4⟩ := genKinds_small l
  refine ⟨Nat.le_trans h1 (by omega), Nat.le_trans (Nat.le_of_eq h2) (by omega), fun it hit => ?_⟩
  obtain ⟨j, q, _, _, _, hc⟩ := wAt_mem hit
  rw [hc]
  refine ⟨Nat.le_trans (cAt_len _ _ _) h3, fun c hcm => ?_⟩
  obtain ⟨j, hj, q, _, rfl⟩ := cAt_mem hcm
  exact Nat.le_trans (vAt_len _ _ _) (h4 _ (List.getElem_mem hj))
end Go.Proofs.Ytanokoededdceaa

namespace Go.Proofs.Ytanokoededdceaa
set_option linter.unusedVariables false
theorem heldFrom_iff {ks : List Kind} : ∀ {l : List Comp} {last : Int}, -1 ≤ last → (heldFrom ks last l = true ↔ l.Pairwise (fun a b => a.kind < b.kind) ∧ ∀ c ∈ l, last < c.kind ∧ c.kind < ks.length ∧ ∃ k, ks[c.kind.toNat]? = some k ∧ holdsOf k c.vals = true)
  | [], _, _ => by simp [heldFrom]
  | c :: l, last, hl => by
    rw [heldFrom]
    constructor
    · intro h
      split at h
      · rename_i k hk
        simp only [Bool.and_eq_true, decide_eq_true_eq] at h
        obtain ⟨⟨⟨h1, h2⟩, h3⟩, h4⟩ := h
        obtain ⟨h5, h6⟩ := (heldFrom_iff (by omega)).1 h4
        refine ⟨List.pairwise_cons.2 ⟨fun d hd => (h6 d hd).1, h5⟩, fun d hd => ?_⟩
        rcases List.mem_cons.1 hd with rfl | hd
        · exact ⟨h1, h2, k, hk, h3⟩
        · obtain ⟨q1, q2⟩ := h6 d hd
          exact ⟨by omega, q2⟩
      · cases h
    · rintro ⟨h1, h2⟩
      obtain ⟨h3, h4⟩ := List.pairwise_cons.1 h1
      obtain ⟨h5, h6, k, hk, h7⟩ := h2 c (by simp)
      rw [hk]
      simp only [Bool.and_eq_true, decide_eq_true_eq]
      exact ⟨⟨⟨h5, h6⟩, h7⟩, (heldFrom_iff (by omega)).2 ⟨h4, fun d hd => ⟨h3 d hd, (h2 d (by simp [hd])).2⟩⟩⟩
theorem itemsFrom_iff {ks : List Kind} {gens : List Int} : ∀ {l : List Item} {last : Int}, -1 ≤ last → (itemsFrom ks gens last l = true ↔ l.Pairwise (fun a b => a.ent.n < b.ent.n) ∧ ∀ it ∈ l, last < it.ent.n ∧ it.ent.n < gens.length ∧ gens[it.ent.n.toNat]? = some it.ent.gen ∧ it.ent.gen ≠ 1073741824 ∧ heldOf ks it.comps = true)
  | [], _, _ => by simp [itemsFrom]
  | c :: l, last, hl => by
    rw [itemsFrom]
    constructor
    · intro h
      split at h
      · rename_i k hk
        simp only [Bool.and_eq_true, decide_eq_true_eq, Bool.not_eq_true', decide_eq_false_iff_not] at h
        obtain ⟨⟨⟨⟨⟨h1, h2⟩, h3⟩, h4⟩, h7⟩, h8⟩ := h
        obtain ⟨h5, h6⟩ := (itemsFrom_iff (by omega)).1 h8
        refine ⟨List.pairwise_cons.2 ⟨fun d hd => (h6 d hd).1, h5⟩, fun d hd => ?_⟩
        rcases List.mem_cons.1 hd with rfl | hd
        · exact ⟨h1, h2, by rw [hk, h3], h4, h7⟩
        · obtain ⟨q1, q2⟩ := h6 d hd
          exact ⟨by omega, q2⟩
      · cases h
    · rintro ⟨h1, h2⟩
      obtain ⟨h3, h4⟩ := List.pairwise_cons.1 h1
      obtain ⟨h5, h6, hk, h7, h8⟩ := h2 c (by simp)
      rw [hk]
      simp only [Bool.and_eq_true, decide_eq_true_eq, Bool.not_eq_true', decide_eq_false_iff_not]
      exact ⟨⟨⟨⟨⟨h5, h6⟩, trivial⟩, h7⟩, h8⟩, (itemsFrom_iff (by omega)).2 ⟨h4, fun d hd => ⟨h3 d hd, (h2 d (by simp [hd])).2⟩⟩⟩
/-- What a valid world is. -/
structure WdOK (w : Wd) : Prop where
  ks : checkErr w.kinds = 0
  gl : w.gens.length ≤ 256
  il : w.items.length ≤ w.gens.length
  gs : ∀ g ∈ w.gens, 0 ≤ g ∧ g ≤ 1073741824
  so : w.items.Pairwise fun a b => a.ent.n < b.ent.n
  it : ∀ it ∈ w.items, 0 ≤ it.ent.n ∧ it.ent.n < w.gens.length ∧ w.gens[it.ent.n.toNat]? = some it.ent.gen ∧ it.ent.gen ≠ 1073741824 ∧ heldOf w.kinds it.comps = true
theorem wdErr_iff (w : Wd) : wdErr w = 0 ↔ WdOK w := by
  have hg : gensOk w.gens = true ↔ ∀ g ∈ w.gens, 0 ≤ g ∧ g ≤ 1073741824 := by
    unfold gensOk
    rw [List.all_eq_true]
    simp only [Bool.and_eq_true, decide_eq_true_eq]
  have hi := itemsFrom_iff (ks := w.kinds) (gens := w.gens) (l := w.items) (last := -1) (by omega)
  unfold wdErr
  constructor
  · intro h
    split at h
    · exact absurd h ‹_›
    rename_i h1
    split at h
    · cases h
    rename_i h2
    split at h
    · cases h
    rename_i h3
    split at h
    · cases h
    rename_i h4
    obtain ⟨h5, h6⟩ := hi.1 (by simpa using h4)
    exact ⟨by simpa using h1, by omega, by omega, hg.1 (by simpa using h3), h5, fun it hit => by obtain ⟨a, b⟩ := h6 it hit; exact ⟨by omega, b⟩⟩
  · intro h
    rw [if_neg (by simp [h.ks]), if_neg (by have := h.gl; have := h.il; omega), if_neg (by rw [hg.2 h.gs]; simp), if_neg (by rw [hi.2 ⟨h.so, fun it hit => by obtain ⟨a, b⟩ := h.it it hit; exact ⟨by omega, b⟩⟩]; simp)]
theorem cAt_pair (ks : List Kind) (l : List Int) (i : Nat) : (cAt ks l i).1.Pairwise fun a b => a.kind < b.kind := by
  induction i with
  | zero => exact .nil
  | succ i ih =>
    by_cases hi : i < ks.length
    · by_cases h2 : nextV (cAt ks l i).2 3 = 2
      · rw [cAt_no hi h2]; exact ih
      · rw [cAt_yes hi h2]
        refine List.pairwise_append.2 ⟨ih, List.pairwise_singleton .., fun a ha b hb => ?_⟩
        rw [List.mem_singleton.1 hb]
        obtain ⟨j, hj, q, hji, rfl⟩ := cAt_mem ha
        show (j : Int) < i
        omega
    · rw [cAt, List.getElem?_eq_none (by omega)]; exact ih
theorem vAt_fit {fs : List Field} (hf : ∀ f ∈ fs, fieldErr f = 0) (hr : ∀ f ∈ fs, FieldOK f) (l : List Int) : ∀ i, i ≤ fs.length → List.zipWith nearOf (fs.take i) (vAt fs l i).1 = (vAt fs l i).1 ∧ (vAt fs l i).1.length = i
  | 0, _ => ⟨rfl, rfl⟩
  | i + 1, h => by
    obtain ⟨h1, h2⟩ := vAt_fit hf hr l i (by omega)
    rw [vAt_next (by omega)]
    have hm := List.getElem_mem (l := fs) (n := i) (by omega)
    obtain ⟨hb0, hb1, _, _⟩ := hr _ hm
    have hp := pow_small (b := fs[i].bits.toNat) (by omega)
    have hv := nextV_range (vAt fs l i).2 (n := 2 ^ fs[i].bits.toNat) (by omega)
    have hh : highOf fs[i] = fs[i].low + (2 ^ fs[i].bits.toNat - 1) := by unfold highOf; rw [if_pos (hf _ hm)]
    refine ⟨?_, by rw [List.length_append, h2]; rfl⟩
    rw [List.take_succ_eq_append_getElem (by omega), List.zipWith_append (by rw [h2, List.length_take]; omega), h1]
    simp only [List.zipWith_cons_cons, List.zipWith_nil_left]
    rw [near_in (hf _ hm) (by omega) (by rw [hh]; omega)]
theorem vAt_holds {k : Kind} (h1 : oneErr k = 0) (hf : ∀ f ∈ k.fields, fieldErr f = 0) (hr : ∀ f ∈ k.fields, FieldOK f) (l : List Int) : holdsOf k (vAt k.fields l k.fields.length).1 = true := by
  obtain ⟨h2, h3⟩ := vAt_fit hf hr l k.fields.length (Nat.le_refl _)
  rw [List.take_length] at h2
  unfold holdsOf
  rw [fitOf_ok h1 h3, h2]
  simp
/-- Kinds as they are made. -/
structure KsGood (ks : List Kind) : Prop where
  one : ∀ k ∈ ks, oneErr k = 0
  fld : ∀ k ∈ ks, ∀ f ∈ k.fields, fieldErr f = 0
  rng : ∀ k ∈ ks, ∀ f ∈ k.fields, FieldOK f
theorem genKinds_good (l : List Int) : KsGood (genKinds l).1 :=
  ⟨genKinds_ok l, fun k hk => (genKinds_fields l k hk).1, fun k hk => ((genKinds_rng l).2 k hk).2⟩
theorem genComps_held {ks : List Kind} (h : KsGood ks) (l : List Int) : heldOf ks (genComps ks l).1 = true := by
  unfold heldOf
  rw [heldFrom_iff (by omega)]
  refine ⟨cAt_pair _ _ _, fun c hc => ?_⟩
  obtain ⟨j, hj, q, _, rfl⟩ := cAt_mem hc
  have hm := List.getElem_mem hj
  exact ⟨by show (-1 : Int) < (j : Int); omega, by show (j : Int) < _; omega, ks[j], List.getElem?_eq_getElem hj, vAt_holds (h.one _ hm) (h.fld _ hm) (h.rng _ hm) q⟩
theorem wAt_pair (ks : List Kind) (l : List Int) (i : Nat) : (wAt ks l i).2.1.Pairwise fun a b => a.ent.n < b.ent.n := by
  induction i with
  | zero => exact .nil
  | succ i ih =>
    rw [wAt]
    split
    · exact ih
    · refine List.pairwise_append.2 ⟨ih, List.pairwise_singleton .., fun a ha b hb => ?_⟩
      rw [List.mem_singleton.1 hb]
      obtain ⟨j, q, hji, _, e, _⟩ := wAt_mem ha
      show a.ent.n < (i : Int)
      omega
theorem wAt_gens (ks : List Kind) (l : List Int) (i : Nat) : ∀ g ∈ (wAt ks l i).1, 0 ≤ g ∧ g < 3 := by
  induction i with
  | zero => intro g hg; cases hg
  | succ i ih =>
    intro g hg
    rw [wAt] at hg
    have h3 := nextV_range (wAt ks l i).2.2 (n := 3) (by decide)
    split at hg <;>
    · rcases List.mem_append.1 hg with hg | hg
      · exact ih g hg
      · rw [List.mem_singleton.1 hg]; exact h3
/-- Made worlds are valid. -/
theorem genWorld_ok (l : List Int) : WdOK (genWorld l) := by
  have h := nextV_range (genKinds l).2 (n := 12) (by decide)
  have h1 := wAt_len2 (genKinds l).1 (nextL (genKinds l).2 12) (nextV (genKinds l).2 12).toNat
  have h2 := wAt_len1 (genKinds l).1 (nextL (genKinds l).2 12) (nextV (genKinds l).2 12).toNat
  have h3 := wAt_gens (genKinds l).1 (nextL (genKinds l).2 12) (nextV (genKinds l).2 12).toNat
  refine ⟨genKinds_check l, ?_, ?_, fun g hg => ?_, wAt_pair _ _ _, fun it hit => ?_⟩
  · exact Nat.le_trans (Nat.le_of_eq h2) (by omega)
  · exact Nat.le_trans h1 (Nat.le_of_eq h2.symm)
  · have := h3 g hg; omega
  · obtain ⟨j, q, hji, hg, hn, hc⟩ := wAt_mem hit
    have hjl : j < (wAt (genKinds l).1 (nextL (genKinds l).2 12) (nextV (genKinds l).2 12).toNat).1.length := (List.getElem?_eq_some_iff.1 hg).1
    have hgm := h3 _ (List.mem_of_getElem? hg)
    refine ⟨by omega, ?_, ?_, by omega, by rw [hc]; exact genComps_held (genKinds_good l) q⟩
    · rw [hn]; show (j : Int) < ((wAt _ _ _).1.length : Int); omega
    · rw [hn]; exact hg
end Go.Proofs.Ytanokoededdceaa
