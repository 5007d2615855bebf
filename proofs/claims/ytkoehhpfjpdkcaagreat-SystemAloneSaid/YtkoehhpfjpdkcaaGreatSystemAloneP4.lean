/-
  Part 4 of the texts under the law SystemAlone: the layer of abstract values, walks and plain laws. Conditions: those that each theorem names.
-/
import Derived.WalkKit
import Derived.Lib.Hide
import Derived.Deep.OwnRows
import Derived.Deep.Draws
import Derived.Test.YtkoehhpfjpdkcaaGreatChecked
import Derived.ProofKit
import Derived.OpenShut
import Derived.ShutString
import Derived.ChangeOld
import Derived.Below
import Derived.SizedLaws
import Derived.Deep.Slices
import Derived.Deep.Fields
import Derived.ChangeSame
import Derived.Test.YtkoehhpfjpdkcaaGreatProg
import Derived.Sort.AssemblyPlain
import Derived.Test.YtkoehhpfjpdkcaaGreatSystemAloneP3
namespace Go.Proofs.YtkoehhpfjpdkcaaGreat
set_option linter.unusedSimpArgs false
set_option linter.unusedVariables false

structure Field where
  name : List UInt8
  bits : Int
  low : Int
structure Kind where
  name : List UInt8
  fields : List Field
structure Ent where
  n : Int
  gen : Int
structure Comp where
  kind : Int
  vals : List Int
structure Item where
  ent : Ent
  comps : List Comp
structure Wd where
  kinds : List Kind
  gens : List Int
  items : List Item
structure Evt where
  sys : Int
  ent : Ent
  val : Int
structure Ref where
  kind : Int
  field : Int
structure Arg where
  has : Bool
  n : Int
  ref : Ref
structure Op where
  act : Int
  to : Ref
  a : Arg
  b : Arg
structure Sys where
  name : List UInt8
  wth : List Int
  wout : List Int
  reads : List Int
  writes : List Int
  ops : List Op
  spawn : List Comp


instance : DecidableEq Ent := fun a b => decidable_of_iff (a.n = b.n ∧ a.gen = b.gen) (by cases a; cases b; simp)
instance : DecidableEq Comp := fun a b => decidable_of_iff (a.kind = b.kind ∧ a.vals = b.vals) (by cases a; cases b; simp)
instance : DecidableEq Item := fun a b => decidable_of_iff (a.ent = b.ent ∧ a.comps = b.comps) (by cases a; cases b; simp)
instance : DecidableEq Ref := fun a b => decidable_of_iff (a.kind = b.kind ∧ a.field = b.field) (by cases a; cases b; simp)
/-- A number of Go's type int. -/
def I64 (x : Int) : Prop := -9223372036854775808 ≤ x ∧ x ≤ 9223372036854775807
end Go.Proofs.YtkoehhpfjpdkcaaGreat

namespace Go.Proofs.YtkoehhpfjpdkcaaGreat
set_option linter.unusedSimpArgs false
set_option linter.unusedVariables false
open Go.RowKit

abbrev Reg := Nat → Prop
/-- The blocks that the world holds. -/
def Lt (w : World) : Reg := fun b => b < w.heap.size
section
variable {w w' w'' : World} {S T : Reg}
theorem bel {n m : Nat} {a b c : World} (h : Below n a b) (k : Below m b c) (hm : n ≤ m) : Below n a c := h.trans (k.mono hm)
/-- The slice value v holds n elements of sz cells each: the cells xs, in a block of S (none is asked of an empty one). -/
def Row (w : World) (S : Reg) (sz : Nat) (v : Value) (n : Nat) (xs : List Value) : Prop :=
  xs.length = n * sz ∧ ∃ A cap, v = .slice A n cap ∧ n ≤ cap ∧ (0 < n → ∃ b off, A = some ⟨b, off, none⟩ ∧ S b ∧ ∀ j u, xs[j]? = some u → w.cell? ⟨b, off + j, none⟩ = some u)

variable {sz n : Nat} {v : Value} {xs : List Value}
theorem Row.nil (w : World) (S : Reg) (sz : Nat) : Row w S sz (.slice none 0 0) 0 [] := ⟨by simp, none, 0, rfl, Nat.le_refl _, fun h => absurd h (by omega)⟩
end

/-- The cells xs are those of the data l, sz cells each. -/
def Cells {α : Type} (C : List Value → α → Prop) (sz : Nat) : List Value → List α → Prop
  | xs, [] => xs = []
  | xs, x :: l => ∃ c ys, xs = c ++ ys ∧ c.length = sz ∧ C c x ∧ Cells C sz ys l

section
variable {α : Type} {C C' : List Value → α → Prop} {sz : Nat} {xs ys : List Value} {l m : List α}
theorem Cells.nil : Cells C sz [] [] := rfl
theorem Cells.length (h : Cells C sz xs l) : xs.length = l.length * sz := by
  induction l generalizing xs with
  | nil => have : xs = [] := h; simp [this]
  | cons x l ih =>
    obtain ⟨c, ys, rfl, h1, _, h3⟩ := h
    simp [ih h3, h1, Nat.add_mul, Nat.add_comm]
end

/-- The slice value v reads as the list l, each element by C, all in blocks of S. -/
def Sl {α : Type} (w : World) (S : Reg) (sz : Nat) (C : World → Reg → List Value → α → Prop) (v : Value) (l : List α) : Prop :=
  ∃ xs, Row w S sz v l.length xs ∧ Cells (C w S) sz xs l

section
variable {α : Type} {w w' : World} {S T : Reg} {sz : Nat} {C : World → Reg → List Value → α → Prop} {v : Value} {l : List α}
theorem Sl.nil (w : World) (S : Reg) (sz : Nat) (C : World → Reg → List Value → α → Prop) : Sl w S sz C (.slice none 0 0) [] := ⟨[], Row.nil w S sz, .nil⟩
end

/-! ### The program's data in memory -/
abbrev strV (l : List UInt8) : Value := .string ⟨l.toArray⟩
def intC (_ : World) (_ : Reg) (c : List Value) (x : Int) : Prop := c = [.int .i64 x]
def fieldC (_ : World) (_ : Reg) (c : List Value) (f : Field) : Prop := c = [strV f.name, .int .i64 f.bits, .int .i64 f.low]
abbrev Ints (w : World) (S : Reg) (v : Value) (l : List Int) : Prop := Sl w S 1 intC v l
abbrev Fields (w : World) (S : Reg) (v : Value) (l : List Field) : Prop := Sl w S 3 fieldC v l
def kindC (w : World) (S : Reg) (c : List Value) (k : Kind) : Prop := ∃ vf, c = [strV k.name, vf] ∧ Fields w S vf k.fields
abbrev Kinds (w : World) (S : Reg) (v : Value) (l : List Kind) : Prop := Sl w S 2 kindC v l
section
variable {w w' : World} {S T : Reg} {v : Value}
/-! one element, its cells written out, at the addresses that the walk computes -/
variable {A : Option Addr} {n cap i : Nat}
end

section
variable {α : Type} {w w' : World} {base : Nat} {e : TypeId} {S T : Reg} {sz : Nat} {C : World → Reg → List Value → α → Prop} {v : Value} {l : List α}
end

section
variable {w w' : World} {b : Nat} {e : TypeId} {l : List Int}
end

section
variable {w w' : World} {g : Nat} {t : TypeId} {cs : Array Value}
end
end Go.Proofs.YtkoehhpfjpdkcaaGreat

namespace Go.Proofs.YtkoehhpfjpdkcaaGreat
set_option linter.unusedSimpArgs false
set_option linter.unusedVariables false
open Go.ChangeShapes Go.WideShapes Go.ChangeAt Go.RowKit Go.Deep

theorem i64_of_wf {x : Int} (h : (Lit.int .i64 x).wf = true) : I64 x := by
  have := h
  simp [Lit.wf, IntKind.min, IntKind.max, IntKind.signed, IntKind.bits] at this
  unfold I64
  omega

theorem flat_at {α : Type} {sz : Nat} {cs : α → List Value} {f : Nat → Option Value} (hcs : ∀ x, (cs x).length = sz) : ∀ (l : List α) (off : Nat), (∀ i (hi : i < l.length) j u, (cs l[i])[j]? = some u → f (off + (i * sz + j)) = some u) →
    ∀ j u, (l.flatMap cs)[j]? = some u → f (off + j) = some u := by
  intro l
  induction l with
  | nil => intro off _ j u h; simp at h
  | cons x l ih =>
    intro off h j u hj
    rw [List.flatMap_cons] at hj
    rcases Nat.lt_or_ge j sz with hlt | hge
    · rw [List.getElem?_append_left (by rw [hcs]; exact hlt)] at hj
      have := h 0 (by simp) j u hj
      simpa using this
    · rw [List.getElem?_append_right (by rw [hcs]; exact hge), hcs] at hj
      have := ih (off + sz) (fun i hi j u hu => by
        have := h (i + 1) (by simp; omega) j u hu
        rwa [Nat.add_mul, Nat.one_mul, show off + (i * sz + sz + j) = off + sz + (i * sz + j) by omega] at this) (j - sz) u hj
      rwa [show off + sz + (j - sz) = off + j by omega] at this
theorem cells_flat {α : Type} {sz : Nat} {cs : α → List Value} {C : List Value → α → Prop} (hcs : ∀ x, (cs x).length = sz) (hC : ∀ x, C (cs x) x) (l : List α) : Cells C sz (l.flatMap cs) l := by
  induction l with
  | nil => rfl
  | cons x l ih => exact ⟨cs x, l.flatMap cs, by rw [List.flatMap_cons], hcs x, hC x, ih⟩
theorem sl_of_cells {α : Type} {w : World} {sz : Nat} {C : World → Reg → List Value → α → Prop} {a : Addr} {n cap : Nat} {l : List α} {cs : α → List Value} (hn : n ≤ cap) (hl : l.length = n) (hsz : 0 < sz) (hcs : ∀ x, (cs x).length = sz) (hC : ∀ x, C w (Lt w) (cs x) x)
    (hcell : ∀ i (hi : i < l.length) j u, (cs l[i])[j]? = some u → w.cell? (a.add (i * sz + j)) = some u) : Sl w (Lt w) sz C (.slice (some a) n cap) l := by
  subst hl
  refine ⟨l.flatMap cs, ⟨?_, some a, cap, rfl, hn, fun h0 => ?_⟩, cells_flat hcs hC l⟩
  · have := (cells_flat (C := fun _ _ => True) hcs (fun _ => trivial) l).length
    exact this
  · obtain ⟨b, off, spot⟩ := a
    have h1 : ∃ u, (cs l[0])[0]? = some u := ⟨_, List.getElem?_eq_getElem (by rw [hcs]; exact hsz)⟩
    obtain ⟨u, hu⟩ := h1
    have h2 := hcell 0 h0 0 u hu
    have hspot : spot = none := by simpa [Addr.add] using World.cell?_spot h2
    subst hspot
    refine ⟨b, off, rfl, ?_, ?_⟩
    · rw [Go.WideShapes.add_plain] at h2
      unfold World.cell? at h2
      simp only at h2
      show b < w.heap.size
      rcases Nat.lt_or_ge b w.heap.size with h | h
      · exact h
      · rw [Array.getElem?_eq_none h] at h2
        cases h2
    · refine flat_at (f := fun k => w.cell? ⟨b, k, none⟩) hcs l off fun i hi j u hu => ?_
      have := hcell i hi j u hu
      rwa [Go.WideShapes.add_plain] at this

section
variable {H : Type} {enc : TypeId × Value → H} {w : World} {a : Option Addr} {len cap : Nat} {d : DataW H} {p : List MemPlace}
theorem ints_arg (h : DataW.Trod enc Tryz.prog w 0 (fun _ => true) true 22 (.slice a len cap) d p) :
    ∃ z : List Int, Ints w (Lt w) (.slice a len cap) z ∧ (z = [] ∨ ∃ elems spare, d = .slice elems spare ∧ z.length ≤ elems.length + spare.length) := by
  obtain ⟨fuel, hf⟩ := h
  rcases open_slice Tryz.underlying22 hf with ⟨hcs, _⟩ | ⟨x, l, c, m, n, D, Pl, hcs, hb, hl, hm, hmm, hx, hi⟩
  · simp [Value.cells] at hcs
    obtain ⟨rfl, rfl, rfl⟩ := hcs
    exact ⟨[], Sl.nil _ _ _ _, .inl rfl⟩
  · simp [Value.cells] at hcs
    obtain ⟨rfl, rfl, rfl⟩ := hcs
    have hlm : len ≤ m := by rw [hmm]; split <;> omega
    have hex : ∀ i, ∃ e : Int, i < len → ∀ j u, ([Value.int .i64 e])[j]? = some u → w.cell? (x.add (i * 1 + j)) = some u := by
      intro i
      by_cases hil : i < len
      · obtain ⟨cs', hc, ht⟩ := hi i (by omega)
        rw [show Tryz.prog.cellsOf 3 = 1 from by kernel_rfl] at hc
        obtain ⟨_, hcl, hat⟩ := World.cells?_some hc
        obtain ⟨k, rfl, _⟩ := DataW.trod_int Tryz.underlying3 ht
        refine ⟨k, fun _ j u hu => ?_⟩
        have hj : j = 0 := by
          have := (List.getElem?_eq_some_iff.1 hu).1
          simp at this
          omega
        subst hj
        have := hat 0 (by omega)
        rw [Go.Deep.add_add] at this
        rw [this, hu]
      · exact ⟨0, fun h => absurd h hil⟩
    obtain ⟨f, hf'⟩ := Classical.axiomOfChoice hex
    refine ⟨(List.range len).map f, sl_of_cells (cs := fun e => [Value.int .i64 e]) hl (by simp) (by omega) (fun _ => rfl) (fun _ => rfl) (fun i hi' j u hu => ?_), .inr ⟨_, _, (Prod.mk.inj hx).1, by simp⟩⟩
    simp only [List.length_map, List.length_range] at hi'
    exact hf' i hi' j u (by simpa using hu)
end
end Go.Proofs.YtkoehhpfjpdkcaaGreat

namespace Go.Proofs.YtkoehhpfjpdkcaaGreat
set_option linter.unusedVariables false

instance tAg3 : TAg Tryz.prog 3 false := ⟨by kernel_rfl⟩
instance tSize3 : TSize Tryz.prog 3 1 := ⟨by kernel_rfl⟩
instance tZe3 : TZe Tryz.prog 3 [.int .i64 0] := ⟨by kernel_rfl⟩
instance tBy3 : TBy Tryz.prog 3 8 := ⟨by kernel_rfl⟩
instance tAg4 : TAg Tryz.prog 4 false := ⟨by kernel_rfl⟩
instance tSize4 : TSize Tryz.prog 4 1 := ⟨by kernel_rfl⟩
instance tAg9 : TAg Tryz.prog 9 false := ⟨by kernel_rfl⟩
instance tSize9 : TSize Tryz.prog 9 1 := ⟨by kernel_rfl⟩
instance tZe9 : TZe Tryz.prog 9 [.string ByteArray.empty] := ⟨by kernel_rfl⟩
instance tSg9 : TSg Tryz.prog 9  := ⟨by kernel_rfl⟩
instance tAg22 : TAg Tryz.prog 22 false := ⟨by kernel_rfl⟩
instance tSize22 : TSize Tryz.prog 22 1 := ⟨by kernel_rfl⟩
instance tZe22 : TZe Tryz.prog 22 [.slice none 0 0] := ⟨by kernel_rfl⟩
instance tEl22 : TEl Tryz.prog 22 3 := ⟨by kernel_rfl⟩
instance tRo22 : TRo Tryz.prog 22 3 1 8 := ⟨by kernel_rfl⟩
instance tAg24 : TAg Tryz.prog 24 false := ⟨by kernel_rfl⟩
instance tSize24 : TSize Tryz.prog 24 1 := ⟨by kernel_rfl⟩
instance tEl24 : TEl Tryz.prog 24 102 := ⟨by kernel_rfl⟩
instance tRo24 : TRo Tryz.prog 24 102 2 40 := ⟨by kernel_rfl⟩
instance tAg25 : TAg Tryz.prog 25 false := ⟨by kernel_rfl⟩
instance tSize25 : TSize Tryz.prog 25 1 := ⟨by kernel_rfl⟩
instance tEl25 : TEl Tryz.prog 25 48 := ⟨by kernel_rfl⟩
instance tRo25 : TRo Tryz.prog 25 48 3 40 := ⟨by kernel_rfl⟩
instance tAg27 : TAg Tryz.prog 27 true := ⟨by kernel_rfl⟩
instance tSize27 : TSize Tryz.prog 27 3 := ⟨by kernel_rfl⟩
instance tZe27 : TZe Tryz.prog 27 [.slice none 0 0, .slice none 0 0, .slice none 0 0] := ⟨by kernel_rfl⟩
instance tFl27_0 : TFl Tryz.prog 27 0 0 24 := ⟨by kernel_rfl⟩
instance tFl27_1 : TFl Tryz.prog 27 1 1 22 := ⟨by kernel_rfl⟩
instance tFl27_2 : TFl Tryz.prog 27 2 2 25 := ⟨by kernel_rfl⟩
instance tSt27 : TSt Tryz.prog 27 [.slice none 0 0, .slice none 0 0, .slice none 0 0] [(0, 1), (1, 1), (2, 1)] := ⟨by kernel_rfl⟩
instance tAg28 : TAg Tryz.prog 28 false := ⟨by kernel_rfl⟩
instance tSize28 : TSize Tryz.prog 28 1 := ⟨by kernel_rfl⟩
instance tEl28 : TEl Tryz.prog 28 82 := ⟨by kernel_rfl⟩
instance tRo28 : TRo Tryz.prog 28 82 11 88 := ⟨by kernel_rfl⟩
instance tAg29 : TAg Tryz.prog 29 false := ⟨by kernel_rfl⟩
instance tSize29 : TSize Tryz.prog 29 1 := ⟨by kernel_rfl⟩
instance tEl29 : TEl Tryz.prog 29 104 := ⟨by kernel_rfl⟩
instance tRo29 : TRo Tryz.prog 29 104 2 32 := ⟨by kernel_rfl⟩
instance tAg31 : TAg Tryz.prog 31 true := ⟨by kernel_rfl⟩
instance tSize31 : TSize Tryz.prog 31 7 := ⟨by kernel_rfl⟩
instance tZe31 : TZe Tryz.prog 31 [.string ByteArray.empty, .slice none 0 0, .slice none 0 0, .slice none 0 0, .slice none 0 0, .slice none 0 0, .slice none 0 0] := ⟨by kernel_rfl⟩
instance tFl31_0 : TFl Tryz.prog 31 0 0 9 := ⟨by kernel_rfl⟩
instance tFl31_1 : TFl Tryz.prog 31 1 1 22 := ⟨by kernel_rfl⟩
instance tFl31_2 : TFl Tryz.prog 31 2 2 22 := ⟨by kernel_rfl⟩
instance tFl31_3 : TFl Tryz.prog 31 3 3 22 := ⟨by kernel_rfl⟩
instance tFl31_4 : TFl Tryz.prog 31 4 4 22 := ⟨by kernel_rfl⟩
instance tFl31_5 : TFl Tryz.prog 31 5 5 28 := ⟨by kernel_rfl⟩
instance tFl31_6 : TFl Tryz.prog 31 6 6 29 := ⟨by kernel_rfl⟩
instance tSt31 : TSt Tryz.prog 31 [.string ByteArray.empty, .slice none 0 0, .slice none 0 0, .slice none 0 0, .slice none 0 0, .slice none 0 0, .slice none 0 0] [(0, 1), (1, 1), (2, 1), (3, 1), (4, 1), (5, 1), (6, 1)] := ⟨by kernel_rfl⟩
instance tAg34 : TAg Tryz.prog 34 false := ⟨by kernel_rfl⟩
instance tSize34 : TSize Tryz.prog 34 1 := ⟨by kernel_rfl⟩
instance tEl34 : TEl Tryz.prog 34 58 := ⟨by kernel_rfl⟩
instance tRo34 : TRo Tryz.prog 34 58 5 56 := ⟨by kernel_rfl⟩
instance tAg35 : TAg Tryz.prog 35 false := ⟨by kernel_rfl⟩
instance tSize35 : TSize Tryz.prog 35 1 := ⟨by kernel_rfl⟩
instance tEl35 : TEl Tryz.prog 35 54 := ⟨by kernel_rfl⟩
instance tRo35 : TRo Tryz.prog 35 54 4 32 := ⟨by kernel_rfl⟩
instance tAg42 : TAg Tryz.prog 42 true := ⟨by kernel_rfl⟩
instance tSize42 : TSize Tryz.prog 42 2 := ⟨by kernel_rfl⟩
instance tZe42 : TZe Tryz.prog 42 [.int .i64 0, .int .i64 0] := ⟨by kernel_rfl⟩
instance tFl42_0 : TFl Tryz.prog 42 0 0 3 := ⟨by kernel_rfl⟩
instance tFl42_1 : TFl Tryz.prog 42 1 1 3 := ⟨by kernel_rfl⟩
instance tSt42 : TSt Tryz.prog 42 [.int .i64 0, .int .i64 0] [(0, 1), (1, 1)] := ⟨by kernel_rfl⟩
instance tAg48 : TAg Tryz.prog 48 true := ⟨by kernel_rfl⟩
instance tSize48 : TSize Tryz.prog 48 3 := ⟨by kernel_rfl⟩
instance tZe48 : TZe Tryz.prog 48 [.int .i64 0, .int .i64 0, .slice none 0 0] := ⟨by kernel_rfl⟩
instance tBy48 : TBy Tryz.prog 48 40 := ⟨by kernel_rfl⟩
instance tFl48_0 : TFl Tryz.prog 48 0 0 42 := ⟨by kernel_rfl⟩
instance tFl48_1 : TFl Tryz.prog 48 1 2 29 := ⟨by kernel_rfl⟩
instance tSt48 : TSt Tryz.prog 48 [.int .i64 0, .int .i64 0, .slice none 0 0] [(0, 2), (2, 1)] := ⟨by kernel_rfl⟩
instance tAg54 : TAg Tryz.prog 54 true := ⟨by kernel_rfl⟩
instance tSize54 : TSize Tryz.prog 54 4 := ⟨by kernel_rfl⟩
instance tZe54 : TZe Tryz.prog 54 [.int .i64 0, .int .i64 0, .int .i64 0, .int .i64 0] := ⟨by kernel_rfl⟩
instance tFl54_1 : TFl Tryz.prog 54 1 1 42 := ⟨by kernel_rfl⟩
instance tSt54 : TSt Tryz.prog 54 [.int .i64 0, .int .i64 0, .int .i64 0, .int .i64 0] [(0, 1), (1, 2), (3, 1)] := ⟨by kernel_rfl⟩
instance tAg58 : TAg Tryz.prog 58 true := ⟨by kernel_rfl⟩
instance tSize58 : TSize Tryz.prog 58 5 := ⟨by kernel_rfl⟩
instance tZe58 : TZe Tryz.prog 58 [.int .i64 0, .int .i64 0, .int .i64 0, .int .i64 0, .slice none 0 0] := ⟨by kernel_rfl⟩
instance tFl58_0 : TFl Tryz.prog 58 0 0 3 := ⟨by kernel_rfl⟩
instance tFl58_1 : TFl Tryz.prog 58 1 1 42 := ⟨by kernel_rfl⟩
instance tFl58_2 : TFl Tryz.prog 58 2 3 3 := ⟨by kernel_rfl⟩
instance tFl58_3 : TFl Tryz.prog 58 3 4 29 := ⟨by kernel_rfl⟩
instance tSt58 : TSt Tryz.prog 58 [.int .i64 0, .int .i64 0, .int .i64 0, .int .i64 0, .slice none 0 0] [(0, 1), (1, 2), (3, 1), (4, 1)] := ⟨by kernel_rfl⟩
instance tAg67 : TAg Tryz.prog 67 false := ⟨by kernel_rfl⟩
instance tSize67 : TSize Tryz.prog 67 1 := ⟨by kernel_rfl⟩
instance tZe67 : TZe Tryz.prog 67 [.pointer none] := ⟨by kernel_rfl⟩
instance tAg68 : TAg Tryz.prog 68 false := ⟨by kernel_rfl⟩
instance tSize68 : TSize Tryz.prog 68 1 := ⟨by kernel_rfl⟩
instance tAg70 : TAg Tryz.prog 70 true := ⟨by kernel_rfl⟩
instance tSize70 : TSize Tryz.prog 70 2 := ⟨by kernel_rfl⟩
instance tZe70 : TZe Tryz.prog 70 [.int .u64 0, .int .u64 0] := ⟨by kernel_rfl⟩
instance tFl70_0 : TFl Tryz.prog 70 0 0 68 := ⟨by kernel_rfl⟩
instance tFl70_1 : TFl Tryz.prog 70 1 1 68 := ⟨by kernel_rfl⟩
instance tSt70 : TSt Tryz.prog 70 [.int .u64 0, .int .u64 0] [(0, 1), (1, 1)] := ⟨by kernel_rfl⟩
instance tFl72_0 : TFl Tryz.prog 72 0 0 24 := ⟨by kernel_rfl⟩
instance tFl72_1 : TFl Tryz.prog 72 1 1 31 := ⟨by kernel_rfl⟩
instance tFl72_2 : TFl Tryz.prog 72 2 8 48 := ⟨by kernel_rfl⟩
instance tFl72_3 : TFl Tryz.prog 72 3 11 70 := ⟨by kernel_rfl⟩
instance tFl72_4 : TFl Tryz.prog 72 4 13 34 := ⟨by kernel_rfl⟩
instance tFl72_5 : TFl Tryz.prog 72 5 14 35 := ⟨by kernel_rfl⟩
instance tFl72_6 : TFl Tryz.prog 72 6 15 3 := ⟨by kernel_rfl⟩
instance tSt72 : TSt Tryz.prog 72 [.slice none 0 0, .string ByteArray.empty, .slice none 0 0, .slice none 0 0, .slice none 0 0, .slice none 0 0, .slice none 0 0, .slice none 0 0, .int .i64 0, .int .i64 0, .slice none 0 0, .int .u64 0, .int .u64 0, .slice none 0 0, .slice none 0 0, .int .i64 0] [(0, 1), (1, 7), (8, 3), (11, 2), (13, 1), (14, 1), (15, 1)] := ⟨by kernel_rfl⟩
instance tAg78 : TAg Tryz.prog 78 true := ⟨by kernel_rfl⟩
instance tSize78 : TSize Tryz.prog 78 2 := ⟨by kernel_rfl⟩
instance tZe78 : TZe Tryz.prog 78 [.int .i64 0, .int .i64 0] := ⟨by kernel_rfl⟩
instance tFl78_0 : TFl Tryz.prog 78 0 0 3 := ⟨by kernel_rfl⟩
instance tFl78_1 : TFl Tryz.prog 78 1 1 3 := ⟨by kernel_rfl⟩
instance tSt78 : TSt Tryz.prog 78 [.int .i64 0, .int .i64 0] [(0, 1), (1, 1)] := ⟨by kernel_rfl⟩
instance tAg80 : TAg Tryz.prog 80 true := ⟨by kernel_rfl⟩
instance tSize80 : TSize Tryz.prog 80 4 := ⟨by kernel_rfl⟩
instance tZe80 : TZe Tryz.prog 80 [.bool false, .int .i64 0, .int .i64 0, .int .i64 0] := ⟨by kernel_rfl⟩
instance tFl80_0 : TFl Tryz.prog 80 0 0 4 := ⟨by kernel_rfl⟩
instance tFl80_1 : TFl Tryz.prog 80 1 1 3 := ⟨by kernel_rfl⟩
instance tFl80_2 : TFl Tryz.prog 80 2 2 78 := ⟨by kernel_rfl⟩
instance tSt80 : TSt Tryz.prog 80 [.bool false, .int .i64 0, .int .i64 0, .int .i64 0] [(0, 1), (1, 1), (2, 2)] := ⟨by kernel_rfl⟩
instance tAg82 : TAg Tryz.prog 82 true := ⟨by kernel_rfl⟩
instance tSize82 : TSize Tryz.prog 82 11 := ⟨by kernel_rfl⟩
instance tZe82 : TZe Tryz.prog 82 [.int .i64 0, .int .i64 0, .int .i64 0, .bool false, .int .i64 0, .int .i64 0, .int .i64 0, .bool false, .int .i64 0, .int .i64 0, .int .i64 0] := ⟨by kernel_rfl⟩
instance tFl82_0 : TFl Tryz.prog 82 0 0 3 := ⟨by kernel_rfl⟩
instance tFl82_1 : TFl Tryz.prog 82 1 1 78 := ⟨by kernel_rfl⟩
instance tFl82_2 : TFl Tryz.prog 82 2 3 80 := ⟨by kernel_rfl⟩
instance tFl82_3 : TFl Tryz.prog 82 3 7 80 := ⟨by kernel_rfl⟩
instance tSt82 : TSt Tryz.prog 82 [.int .i64 0, .int .i64 0, .int .i64 0, .bool false, .int .i64 0, .int .i64 0, .int .i64 0, .bool false, .int .i64 0, .int .i64 0, .int .i64 0] [(0, 1), (1, 2), (3, 4), (7, 4)] := ⟨by kernel_rfl⟩
instance tAg87 : TAg Tryz.prog 87 false := ⟨by kernel_rfl⟩
instance tSize87 : TSize Tryz.prog 87 1 := ⟨by kernel_rfl⟩
instance tFl89_0 : TFl Tryz.prog 89 0 0 22 := ⟨by kernel_rfl⟩
instance tSt89 : TSt Tryz.prog 89 [.slice none 0 0] [(0, 1)] := ⟨by kernel_rfl⟩
instance tAg99 : TAg Tryz.prog 99 true := ⟨by kernel_rfl⟩
instance tSize99 : TSize Tryz.prog 99 3 := ⟨by kernel_rfl⟩
instance tZe99 : TZe Tryz.prog 99 [.string ByteArray.empty, .int .i64 0, .int .i64 0] := ⟨by kernel_rfl⟩
instance tFl99_0 : TFl Tryz.prog 99 0 0 9 := ⟨by kernel_rfl⟩
instance tFl99_1 : TFl Tryz.prog 99 1 1 3 := ⟨by kernel_rfl⟩
instance tFl99_2 : TFl Tryz.prog 99 2 2 3 := ⟨by kernel_rfl⟩
instance tSt99 : TSt Tryz.prog 99 [.string ByteArray.empty, .int .i64 0, .int .i64 0] [(0, 1), (1, 1), (2, 1)] := ⟨by kernel_rfl⟩
instance tAg100 : TAg Tryz.prog 100 false := ⟨by kernel_rfl⟩
instance tSize100 : TSize Tryz.prog 100 1 := ⟨by kernel_rfl⟩
instance tEl100 : TEl Tryz.prog 100 99 := ⟨by kernel_rfl⟩
instance tRo100 : TRo Tryz.prog 100 99 3 32 := ⟨by kernel_rfl⟩
instance tAg102 : TAg Tryz.prog 102 true := ⟨by kernel_rfl⟩
instance tSize102 : TSize Tryz.prog 102 2 := ⟨by kernel_rfl⟩
instance tZe102 : TZe Tryz.prog 102 [.string ByteArray.empty, .slice none 0 0] := ⟨by kernel_rfl⟩
instance tBy102 : TBy Tryz.prog 102 40 := ⟨by kernel_rfl⟩
instance tFl102_0 : TFl Tryz.prog 102 0 0 9 := ⟨by kernel_rfl⟩
instance tFl102_1 : TFl Tryz.prog 102 1 1 100 := ⟨by kernel_rfl⟩
instance tSt102 : TSt Tryz.prog 102 [.string ByteArray.empty, .slice none 0 0] [(0, 1), (1, 1)] := ⟨by kernel_rfl⟩
instance tAg104 : TAg Tryz.prog 104 true := ⟨by kernel_rfl⟩
instance tSize104 : TSize Tryz.prog 104 2 := ⟨by kernel_rfl⟩
instance tZe104 : TZe Tryz.prog 104 [.int .i64 0, .slice none 0 0] := ⟨by kernel_rfl⟩
instance tBy104 : TBy Tryz.prog 104 32 := ⟨by kernel_rfl⟩
instance tFl104_0 : TFl Tryz.prog 104 0 0 3 := ⟨by kernel_rfl⟩
instance tFl104_1 : TFl Tryz.prog 104 1 1 22 := ⟨by kernel_rfl⟩
instance tSt104 : TSt Tryz.prog 104 [.int .i64 0, .slice none 0 0] [(0, 1), (1, 1)] := ⟨by kernel_rfl⟩
instance tEl109 : TEl Tryz.prog 109 22 := ⟨by kernel_rfl⟩
instance tAg113 : TAg Tryz.prog 113 false := ⟨by kernel_rfl⟩
instance tSize113 : TSize Tryz.prog 113 1 := ⟨by kernel_rfl⟩
instance tZe113 : TZe Tryz.prog 113 [.nilFunc] := ⟨by kernel_rfl⟩
instance tAg121 : TAg Tryz.prog 121 false := ⟨by kernel_rfl⟩
instance tSize121 : TSize Tryz.prog 121 1 := ⟨by kernel_rfl⟩
instance tZe121 : TZe Tryz.prog 121 [.slice none 0 0] := ⟨by kernel_rfl⟩
instance tEl121 : TEl Tryz.prog 121 124 := ⟨by kernel_rfl⟩
instance tRo121 : TRo Tryz.prog 121 124 4 48 := ⟨by kernel_rfl⟩
instance tAg124 : TAg Tryz.prog 124 true := ⟨by kernel_rfl⟩
instance tSize124 : TSize Tryz.prog 124 4 := ⟨by kernel_rfl⟩
instance tZe124 : TZe Tryz.prog 124 [.int .i64 0, .int .i64 0, .int .i64 0, .slice none 0 0] := ⟨by kernel_rfl⟩
instance tFl124_0 : TFl Tryz.prog 124 0 0 3 := ⟨by kernel_rfl⟩
instance tFl124_1 : TFl Tryz.prog 124 1 1 48 := ⟨by kernel_rfl⟩
instance tSt124 : TSt Tryz.prog 124 [.int .i64 0, .int .i64 0, .int .i64 0, .slice none 0 0] [(0, 1), (1, 3)] := ⟨by kernel_rfl⟩
instance tEl135 : TEl Tryz.prog 135 9 := ⟨by kernel_rfl⟩
instance tEl152 : TEl Tryz.prog 152 80 := ⟨by kernel_rfl⟩
end Go.Proofs.YtkoehhpfjpdkcaaGreat

namespace Go.Proofs.YtkoehhpfjpdkcaaGreat
set_option linter.unusedSimpArgs false
set_option linter.unusedVariables false
abbrev iA (n : Int) : AV := .prim (.int .i64 n)
abbrev bA (b : Bool) : AV := .prim (.bool b)
abbrev sA (l : List UInt8) : AV := .prim (strA l)
def fieldA (f : Field) : AV := .agg [sA f.name, iA f.bits, iA f.low]
abbrev fieldsA (o : Bool) (l : List Field) : AV := .lst o 99 3 (l.map fieldA)
def kindA (o : Bool) (k : Kind) : AV := .agg [sA k.name, fieldsA o k.fields]
abbrev kindsA (o o' : Bool) (l : List Kind) : AV := .lst o 102 2 (l.map (kindA o'))
abbrev intsA (o : Bool) (l : List Int) : AV := .lst o 3 1 (l.map iA)
instance {f : Field} : Frz (fieldA f) (fieldA f) := ⟨rfl⟩
instance {o : Bool} {k : Kind} : Frz (kindA o k) (kindA false k) := ⟨by unfold kindA; exact Frz.h⟩
def compA (o : Bool) (c : Comp) : AV := .agg [iA c.kind, intsA o c.vals]
abbrev compsA (o o' : Bool) (l : List Comp) : AV := .lst o 104 2 (l.map (compA o'))
def itemA (o : Bool) (x : Item) : AV := .agg [iA x.ent.n, iA x.ent.gen, compsA o o x.comps]
abbrev itemsA (o o' : Bool) (l : List Item) : AV := .lst o 48 3 (l.map (itemA o'))
def wdA (o : Bool) (w : Wd) : AV := .agg [kindsA o o w.kinds, intsA o w.gens, itemsA o o w.items]
def entA (e : Ent) : AV := .agg [iA e.n, iA e.gen]
def evtA (e : Evt) : AV := .agg [iA e.sys, iA e.ent.n, iA e.ent.gen, iA e.val]
instance {e : Ent} : Frz (entA e) (entA e) := ⟨rfl⟩
instance {e : Evt} : Frz (evtA e) (evtA e) := ⟨rfl⟩
instance {o : Bool} {k : Comp} : Frz (compA o k) (compA false k) := ⟨by unfold compA; exact Frz.h⟩
instance {o : Bool} {k : Item} : Frz (itemA o k) (itemA false k) := ⟨by unfold itemA; exact Frz.h⟩
instance {o : Bool} {k : Wd} : Frz (wdA o k) (wdA false k) := ⟨by unfold wdA; exact Frz.h⟩
theorem frzs_same {α : Type} (f : α → AV) (h : ∀ a, (f a).frz = f a) (l : List α) : AV.frzs (l.map f) = l.map f := by
  rw [frzs_map, List.map_map]
  exact List.map_congr_left fun a _ => h a
theorem intsA_frz (o : Bool) (l : List Int) : (intsA o l).frz = intsA false l := by
  show AV.lst false _ _ (AV.frzs (l.map iA)) = _
  rw [frzs_same _ fun _ => rfl]
end Go.Proofs.YtkoehhpfjpdkcaaGreat

namespace Go.Proofs.YtkoehhpfjpdkcaaGreat
set_option linter.unusedVariables false
theorem entEql (a b c d : Int) (w : World) : (binOp .eql 42 (.agg #[.int .i64 a, .int .i64 b]) (.agg #[.int .i64 c, .int .i64 d])).run Tryz.prog w = .ok (.bool (decide (a = c) && decide (b = d))) w :=
  eql_two (by kernel_rfl) (by kernel_rfl) (by kernel_rfl) a b c d w
def sameE (a b : Ent) : Bool := decide (a.n = b.n) && decide (a.gen = b.gen)
theorem sameE_dec (a b : Ent) : sameE a b = decide (a = b) := by
  obtain ⟨n, g⟩ := a
  obtain ⟨n', g'⟩ := b
  rw [Bool.eq_iff_iff]
  simp [sameE]
end Go.Proofs.YtkoehhpfjpdkcaaGreat

namespace Go.Proofs.YtkoehhpfjpdkcaaGreat
set_option linter.unusedSimpArgs false
set_option linter.unusedVariables false

def nextV (l : List Int) (n : Int) : Int := if n < 1 then 0 else match l with | [] => 0 | x :: _ => x % n
def nextL (l : List Int) (n : Int) : List Int := if n < 1 then l else l.tail
theorem nextV_range (l : List Int) {n : Int} (h : 1 ≤ n) : 0 ≤ nextV l n ∧ nextV l n < n := by
  unfold nextV
  rw [if_neg (by omega)]
  split
  · omega
  · rename_i x _
    exact ⟨Int.emod_nonneg x (by omega), Int.emod_lt_of_pos x (by omega)⟩
/-- The names of kinds: spot, life, team, goal. -/
def kindName (k : Nat) : List UInt8 := match k with
  | 0 => [115, 112, 111, 116]
  | 1 => [108, 105, 102, 101]
  | 2 => [116, 101, 97, 109]
  | _ => [103, 111, 97, 108]
/-- The names of fields: x, y, z. -/
def fieldName (k : Nat) : List UInt8 := match k with
  | 0 => [120]
  | 1 => [121]
  | _ => [122]
def genField (i : Nat) (l : List Int) : Field × List Int :=
  if nextV (nextL (nextL l 9) 40) 8 = 7 then (⟨fieldName i, 32, -2147483648⟩, nextL (nextL (nextL l 9) 40) 8)
  else (⟨fieldName i, 1 + nextV l 9, nextV (nextL l 9) 40 - 30⟩, nextL (nextL (nextL l 9) 40) 8)
def genFields : Nat → Nat → List Int → List Field × List Int
  | _, 0, l => ([], l)
  | i, c + 1, l => ((genField i l).1 :: (genFields (i + 1) c (genField i l).2).1, (genFields (i + 1) c (genField i l).2).2)
def genKind (k : Nat) (l : List Int) : Kind × List Int :=
  (⟨kindName k, (genFields 0 (1 + nextV l 3).toNat (nextL l 3)).1⟩, (genFields 0 (1 + nextV l 3).toNat (nextL l 3)).2)
def genKindsFrom : Nat → Nat → List Int → List Kind × List Int
  | _, 0, l => ([], l)
  | k, c + 1, l => ((genKind k l).1 :: (genKindsFrom (k + 1) c (genKind k l).2).1, (genKindsFrom (k + 1) c (genKind k l).2).2)
def genKinds (l : List Int) : List Kind × List Int := genKindsFrom 0 (1 + nextV l 4).toNat (nextL l 4)
end Go.Proofs.YtkoehhpfjpdkcaaGreat

namespace Go.Proofs.YtkoehhpfjpdkcaaGreat
set_option linter.unusedVariables false
theorem below_ps (x n : Int) (hn : 1 ≤ n) (h2 : n ≤ 4611686018427387904) : PS Tryz.prog 30 [iA x, iA n] (iA (x % n)) := by
  refine Spec.of (nt := 14) (res := [.tmp 4]) Tryz.func30 rfl (by kernel_rfl) rfl rfl rfl fun Sf => ?_
  have h3 : x.tmod n < n := Int.tmod_lt_of_pos _ (by omega)
  have h4 : -n < x.tmod n := by
    have := Int.lt_tmod_of_pos x (b := n) (by omega)
    exact this
  have h5 : x.tmod n = x % n ∨ x.tmod n + n = x % n ∧ x.tmod n < 0 := by
    rw [Int.tmod_eq_emod]
    split
    · exact .inl (by simp)
    · have := Int.emod_nonneg x (b := n) (by omega)
      have := Int.emod_lt_of_pos x (b := n) (by omega)
      refine .inr ?_
      have : ((n.natAbs : Nat) : Int) = n := by omega
      omega
  have h6 := Int.emod_nonneg x (b := n) (by omega)
  (repeat (first | (refine AOps.gN ?_; first | refine AOps.p (W.rem rfl rfl (by omega)) rfl ?_) | refine WK ?_ | refine All.i fun X => ?_ | refine AllY.i fun Y => ?_))
  refine AWP.cond rfl (fun hb => ?_) (fun hb => ?_)
  · have hb : x.tmod n < 0 := by simpa using hb
    (repeat (first | refine WK ?_ | refine All.i fun X => ?_ | refine AllY.i fun Y => ?_))
    (refine AWP.ret ?_; (repeat (first | refine inB_r ?_ | refine andThen_r ?_)); refine retQ_r ?_)
    exact Ends.plain rfl rfl (by exact Sub.f) ⟨by rw [show x.tmod n + n = x % n from by omega], rfl⟩
  · have hb : ¬ x.tmod n < 0 := by simpa using hb
    (repeat (first | refine WK ?_ | refine All.i fun X => ?_ | refine AllY.i fun Y => ?_))
    (refine AWP.ret ?_; (repeat (first | refine inB_r ?_ | refine andThen_r ?_)); refine retQ_r ?_)
    exact Ends.plain rfl rfl (by exact Sub.f) ⟨by rw [show x.tmod n = x % n from by omega], rfl⟩
abbrev streamO (l : List Int) : AO := .row 89 1 [.agg [intsA false l]]
theorem next_po (X : Nat) (l : List Int) (n : Int) (h2 : n ≤ 4611686018427387904) : PO Tryz.prog 32 [.ptr X 0 0, iA n] X (streamO l) (iA (nextV l n)) (streamO (nextL l n)) := by
  refine Spec.of (nt := 33) (res := [.tmp 4]) Tryz.func32 rfl (by kernel_rfl) rfl rfl rfl fun Sf => ?_
  (repeat (first | refine WK ?_ | refine All.i fun X => ?_ | refine AllY.i fun Y => ?_))
  refine AWP.cond rfl (fun hb => ?_) (fun hb => ?_)
  · (repeat (first | refine WK ?_ | refine All.i fun X => ?_ | refine AllY.i fun Y => ?_))
    (refine AWP.ret ?_; (repeat (first | refine inB_r ?_ | refine andThen_r ?_)); refine retQ_r ?_)
    have hb : l.length = 0 ∨ n < 1 := by simp only [Bool.or_eq_true, decide_eq_true_eq, List.length_map] at hb; omega
    have e1 : nextV l n = 0 := by
      unfold nextV
      split
      · rfl
      · rcases hb with hb | hb
        · rw [List.length_eq_zero_iff.1 hb]
        · omega
    have e2 : nextL l n = l := by
      unfold nextL
      split
      · rfl
      · rcases hb with hb | hb
        · rw [List.length_eq_zero_iff.1 hb]; rfl
        · omega
    rw [e1, e2]
    exact Ends.plainS rfl rfl (by exact Sub.f) ⟨rfl, rfl⟩
  · have hb : l.length ≠ 0 ∧ 1 ≤ n := by simp only [Bool.or_eq_false_iff, decide_eq_false_iff_not, List.length_map] at hb; omega
    obtain ⟨hb, hn⟩ := hb
    cases l with
    | nil => exact absurd rfl hb
    | cons x l =>
    (repeat (first | (refine AOps.gN ?_; first | refine AOps.p (W.idxL rfl rfl (a := 0) rfl rfl) rfl ?_ | refine AOps.p (W.loL rfl rfl (a := 1) rfl (by simp)) rfl ?_ | refine AOps.p (W.call2 rfl rfl (below_ps _ _ hn h2) rfl) rfl ?_) | refine WK ?_ | refine All.i fun X => ?_ | refine AllY.i fun Y => ?_))
    (refine AWP.ret ?_; (repeat (first | refine inB_r ?_ | refine andThen_r ?_)); refine retQ_r ?_)
    rw [show nextV (x :: l) n = x % n from by unfold nextV; rw [if_neg (by omega)], show nextL (x :: l) n = l from by unfold nextL; rw [if_neg (by omega)]; rfl]
    exact Ends.plainS (S' := [(X, streamO l)]) rfl rfl (by exact Sub.f) ⟨rfl, rfl⟩
end Go.Proofs.YtkoehhpfjpdkcaaGreat

namespace Go.Proofs.YtkoehhpfjpdkcaaGreat
set_option linter.unusedVariables false
/-- The first i fields, kinds out of a stream, and the stream behind them. -/
def fAt : Nat → List Int → List Field × List Int
  | 0, l => ([], l)
  | i + 1, l => ((fAt i l).1 ++ [(genField i (fAt i l).2).1], (genField i (fAt i l).2).2)
def kAt : Nat → List Int → List Kind × List Int
  | 0, l => ([], l)
  | i + 1, l => ((kAt i l).1 ++ [(genKind i (kAt i l).2).1], (genKind i (kAt i l).2).2)
theorem fAt_len (i : Nat) (l : List Int) : (fAt i l).1.length = i := by
  induction i with
  | zero => rfl
  | succ i ih => simp [fAt, ih]
theorem kAt_len (i : Nat) (l : List Int) : (kAt i l).1.length = i := by
  induction i with
  | zero => rfl
  | succ i ih => simp [kAt, ih]
theorem fAt_gen (c i : Nat) (l : List Int) : ((fAt i l).1 ++ (genFields i c (fAt i l).2).1, (genFields i c (fAt i l).2).2) = fAt (i + c) l := by
  induction c generalizing i with
  | zero => simp [genFields]
  | succ c ih =>
    rw [show i + (c + 1) = (i + 1) + c from by omega, ← ih (i + 1)]
    simp [genFields, fAt]
theorem kAt_gen (c i : Nat) (l : List Int) : ((kAt i l).1 ++ (genKindsFrom i c (kAt i l).2).1, (genKindsFrom i c (kAt i l).2).2) = kAt (i + c) l := by
  induction c generalizing i with
  | zero => simp [genKindsFrom]
  | succ c ih =>
    rw [show i + (c + 1) = (i + 1) + c from by omega, ← ih (i + 1)]
    simp [genKindsFrom, kAt]
theorem genFields_at (c : Nat) (l : List Int) : genFields 0 c l = fAt c l := by
  have := fAt_gen c 0 l
  simpa [fAt] using this
theorem genKinds_at (l : List Int) : genKinds l = kAt (1 + nextV l 4).toNat (nextL l 4) := by
  have := kAt_gen (1 + nextV l 4).toNat 0 (nextL l 4)
  simpa [kAt, genKinds] using this
theorem knames_at {i : Nat} (h : i < 4) : [sA [115, 112, 111, 116], sA [108, 105, 102, 101], sA [116, 101, 97, 109], sA [103, 111, 97, 108]][i]? = some (sA (kindName i)) := by
  have : i = 0 ∨ i = 1 ∨ i = 2 ∨ i = 3 := by omega
  rcases this with rfl | rfl | rfl | rfl <;> rfl
theorem fnames_at {i : Nat} (h : i < 3) : [sA [120], sA [121], sA [122]][i]? = some (sA (fieldName i)) := by
  have : i = 0 ∨ i = 1 ∨ i = 2 := by omega
  rcases this with rfl | rfl | rfl <;> rfl
theorem kinds_po (G : Nat) (l : List Int) : PO Tryz.prog 31 [.ptr G 0 0] G (streamO l) (kindsA true false (genKinds l).1) (streamO (genKinds l).2) := by
  refine Spec.of (nt := 55) (res := [.tmp 2]) Tryz.func31 rfl (by kernel_rfl) rfl rfl rfl fun Sf => ?_
  have h0 := nextV_range l (n := 4) (by decide)
  (repeat (first | (refine AOps.gN ?_; first | (refine AOps.g_callf ?_; first | refine AOps.o2 (h := (next_po G _ _ (by decide))) (k := ?_))) | refine WK ?_ | refine All.i fun X => ?_ | refine AllY.i fun Y => ?_))

  refine AWP.adopt (d := 3) 102 2 rfl fun K => ?_
  obtain ⟨c, hc⟩ : ∃ c : Nat, 1 + nextV l 4 = c := ⟨(1 + nextV l 4).toNat, by omega⟩
  obtain ⟨l0, hl0⟩ : ∃ l0, nextL l 4 = l0 := ⟨_, rfl⟩
  have hg : genKinds l = kAt c l0 := by rw [genKinds_at, hl0, show (1 + nextV l 4).toNat = c from by omega]
  rw [hg, hl0, hc]
  have hc4 : 1 ≤ c ∧ c ≤ 4 := by omega
  clear hg hl0 hc h0
  refine AWP.lp4 (fun (i K : Nat) (M : List AV) (q : List Int) => ⟨[(0, .ptr G 0 0), (3, .sl K 0 i), (10, iA c), (11, iA i)], (K, .row 102 2 M) :: (G, streamO q) :: Sf⟩) (fun i _ M q => i ≤ c ∧ M = (kAt i l0).1.map (kindA false) ∧ M.length = i ∧ q = (kAt i l0).2) (fun i _ _ _ => c - i) 0 K [] l0 ⟨Nat.zero_le _, rfl, rfl, rfl⟩ ?_
  rintro i K M q ⟨hi, hM, hMl, hq⟩
  (repeat (first | refine WK ?_ | refine All.i fun X => ?_ | refine AllY.i fun Y => ?_))
  refine AWP.cond rfl (fun hb => ?_) (fun hb => ?_)
  · have h : i < c := by rw [decide_eq_true_eq] at hb; omega
    have h4 : i < 4 := by omega
    have h3 := nextV_range q (n := 3) (by decide)
    have hkn := knames_at h4
    (repeat (first | (refine AOps.gN ?_; first | (refine AOps.g_callf ?_; first | refine AOps.o2 (h := (next_po G _ _ (by decide))) (k := ?_))) | refine WK ?_ | refine All.i fun Y => ?_ | refine AllY.i fun Y => ?_))
    refine AWP.adoptIn (Y := Y) 99 3 .here (fun F => .cons (.agg (.cons .same (.cons (.base .nil) .nil))) .nil) fun F => ?_
    obtain ⟨l1, hl1⟩ : ∃ l1, nextL q 3 = l1 := ⟨_, rfl⟩
    obtain ⟨c1, hc1⟩ : ∃ c1 : Nat, 1 + nextV q 3 = c1 := ⟨(1 + nextV q 3).toNat, by omega⟩
    have hgk : kAt (i + 1) l0 = ((kAt i l0).1 ++ [⟨kindName i, (fAt c1 l1).1⟩], (fAt c1 l1).2) := by
      rw [kAt, ← hq, genKind, genFields_at, show (1 + nextV q 3).toNat = c1 from by omega, hl1]
    rw [hl1, hc1]
    have hc13 : c1 ≤ 3 := by omega
    refine AWP.lp4 (fun (j F : Nat) (L : List AV) (r : List Int) => ⟨[(0, .ptr G 0 0), (3, .sl K 0 i), (5, .ptr Y 0 0), (10, iA c), (11, iA i), (21, iA c1), (22, iA j)], (F, .row 99 3 L) :: (Y, .row 102 2 [.agg [sA (kindName i), .sl F 0 j]]) :: (K, .row 102 2 M) :: (G, streamO r) :: Sf⟩) (fun j _ L r => j ≤ c1 ∧ L = (fAt j l1).1.map fieldA ∧ L.length = j ∧ r = (fAt j l1).2) (fun j _ _ _ => c1 - j) 0 F [] l1 ⟨Nat.zero_le _, rfl, rfl, rfl⟩ ?_
    rintro j F L r ⟨hj, hL, hLl, hr⟩
    (repeat (first | refine WK ?_ | refine All.i fun X => ?_ | refine AllY.i fun Y => ?_))
    refine AWP.cond rfl (fun hd => ?_) (fun hd => ?_)
    · have hj' : j < c1 := by rw [decide_eq_true_eq] at hd; omega
      have h9 := nextV_range r (n := 9) (by decide)
      have h40 := nextV_range (nextL r 9) (n := 40) (by decide)
      have hfn := fnames_at (i := j) (by omega)
      (repeat (first | refine WK ?_ | refine All.i fun X => ?_ | refine AllY.i fun Y => ?_))
      refine AWP.rs fun X7 => ?_
      (repeat refine WF ?_); refine AWP.region_run (by kernel_rfl) (by kernel_rfl) ?_; (repeat (first | (refine RGo.gN ?_; first | (refine RGo.g_callf ?_; first | refine RGo.o2 (h := (next_po G _ _ (by decide))) (k := ?_))) | (refine RGo.gQ ?_; first | (refine RGo.g_callf ?_; first | refine RGo.o2 (h := (next_po G _ _ (by decide))) (k := ?_))) | refine RK ?_ | refine RGo.nil (by kernel_rfl) ?_))
      (repeat (first | (refine AOps.gN ?_; first | (refine AOps.g_callf ?_; first | refine AOps.o2 (h := (next_po G _ _ (by decide))) (k := ?_))) | refine WK ?_ | refine All.i fun X => ?_ | refine AllY.i fun Y => ?_))
      refine AWP.cond rfl (fun he => ?_) (fun he => ?_)
      · have he : nextV (nextL (nextL r 9) 40) 8 = 7 := by simpa using he
        have hg : genField j r = (⟨fieldName j, 32, -2147483648⟩, nextL (nextL (nextL r 9) 40) 8) := by rw [genField, if_pos he]
        (repeat (first | (refine AOps.gN ?_; first | (refine AOps.g_lit ?_; refine AOps.goL (fieldA ⟨fieldName j, 32, -2147483648⟩) ?_)) | refine WK ?_ | refine All.i fun X => ?_ | refine AllY.i fun Y => ?_))
        refine lp_next4 (j + 1) Y _ _ ⟨hj', ?_, ?_, ?_⟩
        · rw [fAt, ← hr, hg, hL, List.map_append]; rfl
        · rw [List.length_append, hLl]; rfl
        · rw [fAt, ← hr, hg]
      · have he : nextV (nextL (nextL r 9) 40) 8 ≠ 7 := by simpa using he
        have hg : genField j r = (⟨fieldName j, 1 + nextV r 9, nextV (nextL r 9) 40 - 30⟩, nextL (nextL (nextL r 9) 40) 8) := by rw [genField, if_neg he]
        (repeat (first | (refine AOps.gN ?_; first | (refine AOps.g_lit ?_; refine AOps.goL (fieldA ⟨fieldName j, 1 + nextV r 9, nextV (nextL r 9) 40 - 30⟩) ?_)) | refine WK ?_ | refine All.i fun X => ?_ | refine AllY.i fun Y => ?_))
        refine lp_next4 (j + 1) Y _ _ ⟨hj', ?_, ?_, ?_⟩
        · rw [fAt, ← hr, hg, hL, List.map_append]; rfl
        · rw [List.length_append, hLl]; rfl
        · rw [fAt, ← hr, hg]
    · have hj' : j = c1 := by rw [decide_eq_false_iff_not] at hd; omega
      subst hj'
      (repeat first | refine AOps.nil ?_ | refine WF ?_)
      refine AWP.iceIn (X := F) (Y := Y) .here (.next .here) rfl (.cons (.agg (.cons .same (.cons (.base (.sl (by omega))) .nil))) .nil) ?_
      have hF : AV.frzs ((L.drop 0).take j) = (fAt j l1).1.map fieldA := by
        rw [List.drop_zero, List.take_of_length_le (by omega), hL]
        exact Frzs.h
      rw [hF]
      (repeat (first | (refine AOps.gN ?_; first | (refine AOps.g_lit ?_; refine AOps.goL (kindA false ⟨kindName i, (fAt j l1).1⟩) ?_)) | refine WK ?_ | refine All.i fun X => ?_ | refine AllY.i fun Y => ?_))
      refine lp_next4 (i + 1) Y _ _ ⟨h, ?_, ?_, ?_⟩
      · rw [hgk, hM, List.map_append]; rfl
      · rw [List.length_append, hMl]; rfl
      · rw [hgk, hr]
  · have h : i = c := by rw [decide_eq_false_iff_not] at hb; omega
    subst h
    (repeat (first | refine WK ?_ | refine All.i fun X => ?_ | refine AllY.i fun Y => ?_))
    (refine AWP.ret ?_; (repeat (first | refine inB_r ?_ | refine andThen_r ?_)); refine retQ_r ?_)
    subst hM hq
    refine ⟨[.sl K 0 i], [.lst true 102 2 ((kAt i l0).1.map (kindA false))], _, [(G, streamO (kAt i l0).2)], .cons (.tmp rfl) rfl .nil, .cons (.cell (.sl (p := 0) .here (by rw [List.length_map, kAt_len]))) .nil, by exact Sub.f, rfl, rfl⟩
end Go.Proofs.YtkoehhpfjpdkcaaGreat

namespace Go.Proofs.YtkoehhpfjpdkcaaGreat
set_option linter.unusedSimpArgs false
set_option linter.unusedVariables false

def lowc (c : UInt8) : Bool := decide (97 ≤ c) && decide (c ≤ 122)
def digc (c : UInt8) : Bool := decide (48 ≤ c) && decide (c ≤ 57)
def chOk (l : List UInt8) (j : Nat) : Bool := lowc (l.getD j 0) || (decide (0 < j) && digc (l.getD j 0))
def nameOk (l : List UInt8) : Bool := decide (0 < l.length) && decide (l.length ≤ 16) && (List.range l.length).all (chOk l)
def fieldErr (f : Field) : Int := if nameOk f.name && decide (1 ≤ f.bits) && decide (f.bits ≤ 32) && decide (-4294967296 ≤ f.low) && decide (f.low ≤ 4294967296) then 0 else 3
def fieldsErr : List Field → List Field → Int
  | _, [] => 0
  | pre, f :: fs => if fieldErr f ≠ 0 then fieldErr f else if pre.any (fun o => o.name == f.name) then 5 else fieldsErr (pre ++ [f]) fs
def oneErr (k : Kind) : Int := if nameOk k.name then (if 8 < k.fields.length then 2 else fieldsErr [] k.fields) else 3

def findKind (l : List Kind) (name : List UInt8) : Int :=
  match l.findIdx? (fun k => k.name == name) with
  | some i => i
  | none => -1
def kindsErr : List Kind → List Kind → Int
  | _, [] => 0
  | pre, k :: ks => if oneErr k ≠ 0 then oneErr k else if pre.any (fun o => o.name == k.name) then 5 else kindsErr (pre ++ [k]) ks
def checkErr (l : List Kind) : Int := if 16 < l.length then 2 else kindsErr [] l
def highOf (f : Field) : Int := if fieldErr f = 0 then f.low + (2 ^ f.bits.toNat - 1) else 0
def nearOf (f : Field) (v : Int) : Int := if fieldErr f = 0 then max f.low (min v (highOf f)) else 0
def fitOf (k : Kind) (vals : List Int) : List Int × Int :=
  if oneErr k ≠ 0 then ([], oneErr k) else if vals.length ≠ k.fields.length then ([], 1) else (List.zipWith nearOf k.fields vals, 0)
def holdsOf (k : Kind) (vals : List Int) : Bool := decide ((fitOf k vals).2 = 0) && decide ((fitOf k vals).1 = vals)

theorem findKind_none {l : List Kind} {name : List UInt8} (h : ∀ j (hj : j < l.length), l[j].name ≠ name) : findKind l name = -1 := by
  have : l.findIdx? (fun k => k.name == name) = none := by
    rw [List.findIdx?_eq_none_iff]
    intro x hx
    obtain ⟨j, hj, rfl⟩ := List.getElem_of_mem hx
    simpa using h j hj
  simp [findKind, this]
theorem findKind_some {l : List Kind} {name : List UInt8} {i : Nat} (hi : i < l.length) (e : l[i].name = name) (h : ∀ j (hj : j < i), (l[j]'(by omega)).name ≠ name) : findKind l name = i := by
  have : l.findIdx? (fun k => k.name == name) = some i := by
    rw [List.findIdx?_eq_some_iff_getElem]
    refine ⟨hi, by simpa using e, fun j hj => ?_⟩
    simpa using h j hj
  simp [findKind, this]
theorem kindsErr_bad {pre : List Kind} {k : Kind} {ks : List Kind} (h : oneErr k ≠ 0) : kindsErr pre (k :: ks) = oneErr k := by
  simp [kindsErr, h]
theorem kindsErr_twice {pre : List Kind} {k : Kind} {ks : List Kind} (h : oneErr k = 0) (hf : 0 ≤ findKind pre k.name) : kindsErr pre (k :: ks) = 5 := by
  have : pre.any (fun o => o.name == k.name) = true := by
    rcases hc : pre.any (fun o => o.name == k.name) with _ | _
    · exfalso
      rw [List.any_eq_false] at hc
      rw [findKind_none (fun j hj => by simpa using hc _ (List.getElem_mem hj))] at hf
      omega
    · rfl
  simp [kindsErr, h, this]
theorem kindsErr_next {pre : List Kind} {k : Kind} {ks : List Kind} (h : oneErr k = 0) (hf : findKind pre k.name < 0) : kindsErr pre (k :: ks) = kindsErr (pre ++ [k]) ks := by
  have : pre.any (fun o => o.name == k.name) = false := by
    rcases hc : pre.any (fun o => o.name == k.name) with _ | _
    · rfl
    · exfalso
      rw [List.any_eq_true] at hc
      obtain ⟨x, hx, e⟩ := hc
      unfold findKind at hf
      split at hf
      · omega
      · rename_i hn
        rw [List.findIdx?_eq_none_iff] at hn
        exact absurd e (by simpa using hn x hx)
  simp [kindsErr, h, this]
theorem kindsErr_at {l : List Kind} {i : Nat} (hi : i < l.length) : kindsErr (l.take i) (l.drop i) = kindsErr (l.take i) (l[i] :: l.drop (i + 1)) := by
  rw [List.drop_eq_getElem_cons hi]
theorem kindsErr_end {l : List Kind} {i : Nat} (hi : l.length ≤ i) : kindsErr (l.take i) (l.drop i) = 0 := by
  rw [List.drop_of_length_le hi]; rfl
theorem fieldErr_ok (f : Field) (h : nameOk f.name = true) (hb : 1 ≤ f.bits ∧ f.bits ≤ 32 ∧ -4294967296 ≤ f.low ∧ f.low ≤ 4294967296) : fieldErr f = 0 := by
  simp [fieldErr, h, hb]
theorem fieldErr_no (f : Field) (h : nameOk f.name = true → ¬ (1 ≤ f.bits ∧ f.bits ≤ 32 ∧ -4294967296 ≤ f.low ∧ f.low ≤ 4294967296)) : fieldErr f = 3 := by
  unfold fieldErr
  rw [if_neg]
  simp only [Bool.and_eq_true, decide_eq_true_eq]
  intro hc
  exact h hc.1.1.1.1 ⟨hc.1.1.1.2, hc.1.1.2, hc.1.2, hc.2⟩
theorem fieldErr_eq_zero (f : Field) : fieldErr f = 0 ↔ nameOk f.name = true ∧ 1 ≤ f.bits ∧ f.bits ≤ 32 ∧ -4294967296 ≤ f.low ∧ f.low ≤ 4294967296 := by
  constructor
  · intro h
    unfold fieldErr at h
    split at h
    · rename_i hc
      simpa [and_assoc] using hc
    · simp at h
  · rintro ⟨h, hb⟩
    exact fieldErr_ok f h hb
theorem fieldErr_cases (f : Field) : fieldErr f = 0 ∨ fieldErr f = 3 := by
  unfold fieldErr
  split <;> simp
theorem fieldsErr_bad {pre : List Field} {f : Field} {fs : List Field} (h : fieldErr f ≠ 0) : fieldsErr pre (f :: fs) = fieldErr f := by
  simp [fieldsErr, h]
theorem fieldsErr_twice {pre : List Field} {f : Field} {fs : List Field} (h : fieldErr f = 0) {j : Nat} (hj : j < pre.length) (e : pre[j].name = f.name) : fieldsErr pre (f :: fs) = 5 := by
  have : pre.any (fun o => o.name == f.name) = true := by
    rw [List.any_eq_true]
    exact ⟨pre[j], List.getElem_mem hj, by simp [e]⟩
  simp [fieldsErr, h, this]
theorem fieldsErr_next {pre : List Field} {f : Field} {fs : List Field} (h : fieldErr f = 0) (e : ∀ j (hj : j < pre.length), pre[j].name ≠ f.name) : fieldsErr pre (f :: fs) = fieldsErr (pre ++ [f]) fs := by
  have : pre.any (fun o => o.name == f.name) = false := by
    rw [List.any_eq_false]
    intro x hx
    obtain ⟨j, hj, rfl⟩ := List.getElem_of_mem hx
    simpa using e j hj
  simp [fieldsErr, h, this]
theorem fieldsErr_at {l : List Field} {i : Nat} (hi : i < l.length) : fieldsErr (l.take i) (l.drop i) = fieldsErr (l.take i) (l[i] :: l.drop (i + 1)) := by
  rw [List.drop_eq_getElem_cons hi]
theorem fieldsErr_end {l : List Field} {i : Nat} (hi : l.length ≤ i) : fieldsErr (l.take i) (l.drop i) = 0 := by
  rw [List.drop_of_length_le hi]; rfl
theorem nameOk_no (l : List UInt8) (j : Nat) (hj : j < l.length) (h : chOk l j = false) : nameOk l = false := by
  have : (List.range l.length).all (chOk l) = false := by
    rw [List.all_eq_false]
    exact ⟨j, List.mem_range.2 hj, by simp [h]⟩
  simp [nameOk, this]
theorem nameOk_yes (l : List UInt8) (h0 : 0 < l.length) (h1 : l.length ≤ 16) (h : ∀ j, j < l.length → chOk l j = true) : nameOk l = true := by
  have : (List.range l.length).all (chOk l) = true := by
    rw [List.all_eq_true]
    intro x hx
    exact h x (List.mem_range.1 hx)
  simp [nameOk, this, h0, h1]
theorem nameOk_long (l : List UInt8) (h : l.length = 0 ∨ 16 < l.length) : nameOk l = false := by
  rcases h with h | h
  · simp [nameOk, h]
  · simp [nameOk, show ¬ l.length ≤ 16 from by omega]

theorem pow_bits {b : Int} (h1 : 1 ≤ b) (h2 : b ≤ 32) : (2 : Int) ≤ 2 ^ b.toNat ∧ (2 : Int) ^ b.toNat ≤ 4294967296 := by
  obtain ⟨n, rfl⟩ : ∃ n : Nat, b = n := ⟨b.toNat, by omega⟩
  rw [Int.toNat_natCast]
  have h : n = 1 ∨ n = 2 ∨ n = 3 ∨ n = 4 ∨ n = 5 ∨ n = 6 ∨ n = 7 ∨ n = 8 ∨ n = 9 ∨ n = 10 ∨ n = 11 ∨ n = 12 ∨ n = 13 ∨ n = 14 ∨ n = 15 ∨ n = 16 ∨ n = 17 ∨ n = 18 ∨ n = 19 ∨ n = 20 ∨ n = 21 ∨ n = 22 ∨ n = 23 ∨ n = 24 ∨ n = 25 ∨ n = 26 ∨ n = 27 ∨ n = 28 ∨ n = 29 ∨ n = 30 ∨ n = 31 ∨ n = 32 := by omega
  rcases h with rfl | rfl | rfl | rfl | rfl | rfl | rfl | rfl | rfl | rfl | rfl | rfl | rfl | rfl | rfl | rfl | rfl | rfl | rfl | rfl | rfl | rfl | rfl | rfl | rfl | rfl | rfl | rfl | rfl | rfl | rfl | rfl <;> decide
theorem highOf_eq {f : Field} (h : fieldErr f = 0) : highOf f = f.low + (2 ^ f.bits.toNat - 1) := by simp [highOf, h]
theorem highOf_bd {f : Field} (h : fieldErr f = 0) : f.low < highOf f ∧ highOf f ≤ 8589934592 := by
  have hb := (fieldErr_eq_zero f).1 h
  have := pow_bits hb.2.1 hb.2.2.1
  rw [highOf_eq h]
  omega
theorem nearOf_range (f : Field) (v : Int) : -4294967296 ≤ nearOf f v ∧ nearOf f v ≤ 8589934592 := by
  rcases fieldErr_cases f with h | h
  · have := highOf_bd h
    have hb := (fieldErr_eq_zero f).1 h
    simp only [nearOf, h, if_true]
    omega
  · simp [nearOf, h]
theorem fieldsErr_zero {pre l : List Field} (h : fieldsErr pre l = 0) : ∀ f ∈ l, fieldErr f = 0 := by
  induction l generalizing pre with
  | nil => intro f hf; cases hf
  | cons x l ih =>
    intro f hf
    simp only [fieldsErr] at h
    split at h
    · rename_i hx; exact absurd h hx
    · rename_i hx
      split at h
      · simp at h
      · rcases List.mem_cons.1 hf with rfl | hf
        · simpa using hx
        · exact ih h f hf
theorem oneErr_zero {k : Kind} (h : oneErr k = 0) : nameOk k.name = true ∧ k.fields.length ≤ 8 ∧ ∀ f ∈ k.fields, fieldErr f = 0 := by
  unfold oneErr at h
  split at h
  · rename_i h1
    split at h
    · simp at h
    · rename_i h2
      exact ⟨h1, by omega, fieldsErr_zero h⟩
  · simp at h
end Go.Proofs.YtkoehhpfjpdkcaaGreat

namespace Go.Proofs.YtkoehhpfjpdkcaaGreat
set_option linter.unusedVariables false
def baseKind : Kind := ⟨[108, 105, 102, 101], [⟨[120], 8, 0⟩]⟩
def baseWd : Wd := ⟨[baseKind], [0], [⟨⟨0, 0⟩, [⟨0, [9]⟩]⟩]⟩
theorem base_ps : PS Tryz.prog 19 [] (wdA false baseWd) := by
  refine Spec.of (nt := 14) (res := [.cell 0 27]) Tryz.func19 rfl (by kernel_rfl) rfl rfl rfl fun Sf => ?_
  (repeat (first | refine WK ?_ | refine All.i fun X => ?_ | refine AllY.i fun Y => ?_))
  (refine AWP.ret ?_; (repeat (first | refine inB_r ?_ | refine andThen_r ?_)); refine retQ_r ?_)
  refine Ends.id (rs := [wdA false baseWd]) rfl (.cons (.cell (p := 0) rfl .here TAg.h TSize.h rfl rfl) rfl .nil)
theorem equalI_ps (a b : List Int) (hl : a.length ≤ 1099511627776) : PS Tryz.prog 29 [intsA false a, intsA false b] (bA (decide (a = b))) := by
  refine Spec.of (nt := 26) (res := [.tmp 4]) Tryz.func29 rfl (by kernel_rfl) rfl rfl rfl fun Sf => ?_
  (repeat (first | refine WK ?_ | refine All.i fun X => ?_ | refine AllY.i fun Y => ?_))
  refine AWP.cond rfl (fun hb => ?_) (fun hb => ?_)
  · have hb : a.length ≠ b.length := by simp at hb; omega
    (repeat (first | refine WK ?_ | refine All.i fun X => ?_ | refine AllY.i fun Y => ?_))
    (refine AWP.ret ?_; (repeat (first | refine inB_r ?_ | refine andThen_r ?_)); refine retQ_r ?_); refine Ends.ps ?_
    rw [decide_eq_false fun e => hb (by rw [e])]
  · have hb : a.length = b.length := by simp at hb; omega
    (repeat (first | refine WK ?_ | refine All.i fun X => ?_ | refine AllY.i fun Y => ?_))
    refine AWP.lp (fun i : Nat => ⟨[(0, intsA false a), (1, intsA false b), (12, iA (a.map iA).length), (13, iA i)], Sf⟩) (fun i => i ≤ a.length ∧ ∀ j (h : j < a.length), j < i → a[j] = b[j]'(by omega)) (fun i => a.length - i) 0 ⟨Nat.zero_le _, fun j h hj => absurd hj (by omega)⟩ ?_
    rintro i ⟨hi, he⟩
    (repeat (first | refine WK ?_ | refine All.i fun X => ?_ | refine AllY.i fun Y => ?_))
    refine AWP.cond rfl (fun hc => ?_) (fun hc => ?_)
    · have h : i < a.length := by simpa using hc
      have h' : i < b.length := by omega
      (repeat (first | refine WK ?_ | refine All.i fun X => ?_ | refine AllY.i fun Y => ?_))
      (repeat refine WF ?_); refine AWP.region_run (by kernel_rfl) (by kernel_rfl) ?_; (repeat (first | refine RK ?_ | refine RGo.nil (by kernel_rfl) ?_))
      (repeat (first | refine WK ?_ | refine All.i fun X => ?_ | refine AllY.i fun Y => ?_))
      refine AWP.cond rfl (fun hd => ?_) (fun hd => ?_)
      · have hd : a[i] ≠ b[i] := by simpa using hd
        (repeat (first | refine WK ?_ | refine All.i fun X => ?_ | refine AllY.i fun Y => ?_))
        (refine AWP.ret ?_; (repeat (first | refine inB_r ?_ | refine andThen_r ?_)); refine retQ_r ?_); refine Ends.ps ?_
        rw [decide_eq_false fun e => hd (by subst e; rfl)]
      · have hd : a[i] = b[i] := by simpa using hd
        (repeat (first | refine WK ?_ | refine All.i fun X => ?_ | refine AllY.i fun Y => ?_))
        refine lp_next (i + 1) ⟨h, fun j h1 h2 => ?_⟩
        by_cases e : j = i
        · subst e; exact hd
        · exact he j h1 (by omega)
    · have h : ¬ i < a.length := by simpa using hc
      (repeat (first | refine WK ?_ | refine All.i fun X => ?_ | refine AllY.i fun Y => ?_))
      (refine AWP.ret ?_; (repeat (first | refine inB_r ?_ | refine andThen_r ?_)); refine retQ_r ?_); refine Ends.ps ?_
      rw [decide_eq_true (List.ext_getElem hb fun j h1 h2 => he j h1 (by omega))]
end Go.Proofs.YtkoehhpfjpdkcaaGreat

namespace Go.Proofs.YtkoehhpfjpdkcaaGreat
set_option linter.unusedVariables false
def eqF {α : Type} (p : α → α → Bool) : List α → List α → Bool
  | [], [] => true
  | x :: xs, y :: ys => p x y && eqF p xs ys
  | _, _ => false
theorem eqF_len {α : Type} {p : α → α → Bool} : {a b : List α} → a.length ≠ b.length → eqF p a b = false
  | [], [], h => absurd rfl h
  | [], _ :: _, _ => rfl
  | _ :: _, [], _ => rfl
  | x :: xs, y :: ys, h => by rw [eqF, eqF_len (by simpa using h), Bool.and_false]
theorem eqF_no {α : Type} {p : α → α → Bool} : {a b : List α} → (hl : a.length = b.length) → {i : Nat} → (h : i < a.length) → p a[i] (b[i]'(by omega)) = false → eqF p a b = false
  | [], _, _, _, h, _ => absurd h (by simp)
  | x :: xs, [], hl, _, _, _ => by simp at hl
  | x :: xs, y :: ys, hl, 0, h, hp => by rw [eqF, show p x y = false from hp, Bool.false_and]
  | x :: xs, y :: ys, hl, i + 1, h, hp => by
    rw [eqF, eqF_no (a := xs) (b := ys) (by simpa using hl) (i := i) (by simpa using h) hp, Bool.and_false]
theorem eqF_yes {α : Type} {p : α → α → Bool} : {a b : List α} → (hl : a.length = b.length) → (∀ i (h : i < a.length), p a[i] (b[i]'(by omega)) = true) → eqF p a b = true
  | [], [], _, _ => rfl
  | [], _ :: _, hl, _ => by simp at hl
  | x :: xs, [], hl, _ => by simp at hl
  | x :: xs, y :: ys, hl, h => by
    rw [eqF, show p x y = true from h 0 (by simp), eqF_yes (a := xs) (b := ys) (by simpa using hl) fun i hi => h (i + 1) (by simpa using hi)]; rfl
/-- A test that tells equality. -/
theorem eqF_eq {α : Type} {p : α → α → Bool} [DecidableEq α] : {a b : List α} → (∀ x ∈ a, ∀ y ∈ b, p x y = decide (x = y)) → eqF p a b = decide (a = b)
  | [], [], _ => rfl
  | [], _ :: _, _ => rfl
  | _ :: _, [], _ => rfl
  | x :: xs, y :: ys, h => by
    rw [eqF, h x (by simp) y (by simp), eqF_eq fun u hu v hv => h u (by simp [hu]) v (by simp [hv])]
    by_cases e : x = y <;> by_cases e2 : xs = ys <;> simp [e, e2]
end Go.Proofs.YtkoehhpfjpdkcaaGreat

namespace Go.Proofs.YtkoehhpfjpdkcaaGreat
set_option linter.unusedVariables false
theorem equalFuncC_ps (a b : List Comp) (f : FuncId) (cap : List AV) (p : Comp → Comp → Bool) (hs : st1s cap = true) (hl : a.length ≤ 4611686018427387904) (hf : ∀ x ∈ a, ∀ y ∈ b, PS Tryz.prog f ((compA false) x :: (compA false) y :: cap) (bA (p x y))) :
    PS Tryz.prog 67 [.lst false 104 2 (a.map (compA false)), .lst false 104 2 (b.map (compA false)), .fn f cap] (bA (eqF p a b)) := by
  refine Spec.of (nt := 32) (res := [.tmp 6]) Tryz.func67 rfl (by kernel_rfl) rfl rfl rfl fun Sf => ?_
  (repeat (first | refine WK ?_ | refine All.i fun X => ?_ | refine AllY.i fun Y => ?_))
  refine AWP.cond rfl (fun hb => ?_) (fun hb => ?_)
  · have hb : a.length ≠ b.length := by simp at hb; omega
    (repeat (first | refine WK ?_ | refine All.i fun X => ?_ | refine AllY.i fun Y => ?_))
    (refine AWP.ret ?_; (repeat (first | refine inB_r ?_ | refine andThen_r ?_)); refine retQ_r ?_); refine Ends.ps ?_
    rw [eqF_len hb]
  · have hb : a.length = b.length := by simp at hb; omega
    (repeat (first | refine WK ?_ | refine All.i fun X => ?_ | refine AllY.i fun Y => ?_))
    refine AWP.lp (fun i : Nat => ⟨[(0, .lst false 104 2 (a.map (compA false))), (1, .lst false 104 2 (b.map (compA false))), (2, .fn f cap), (15, .lst false 104 2 (a.map (compA false))), (16, iA (a.map (compA false)).length), (17, iA i)], Sf⟩) (fun i => i ≤ a.length ∧ ∀ j (h : j < a.length), j < i → p a[j] (b[j]'(by omega)) = true) (fun i => a.length - i) 0 ⟨Nat.zero_le _, fun j h hj => absurd hj (by omega)⟩ ?_
    rintro i ⟨hi, he⟩
    (repeat (first | refine WK ?_ | refine All.i fun X => ?_ | refine AllY.i fun Y => ?_))
    refine AWP.cond rfl (fun hc => ?_) (fun hc => ?_)
    · have h : i < a.length := by simpa using hc
      have h' : i < b.length := by omega
      (repeat (first | (refine AOps.gN ?_; first | (refine AOps.g_callv ?_; first | refine AOps.k2 (h := (hf _ (List.getElem_mem h) _ (List.getElem_mem h'))) (k := ?_))) | refine WK ?_ | refine All.i fun X => ?_ | refine AllY.i fun Y => ?_))
      refine AWP.cond rfl (fun hd => ?_) (fun hd => ?_)
      · have hd : p a[i] b[i] = false := by simpa using hd
        (repeat (first | refine WK ?_ | refine All.i fun X => ?_ | refine AllY.i fun Y => ?_))
        (refine AWP.ret ?_; (repeat (first | refine inB_r ?_ | refine andThen_r ?_)); refine retQ_r ?_); refine Ends.ps ?_
        rw [eqF_no hb h hd]
      · have hd : p a[i] b[i] = true := by simpa using hd
        (repeat (first | refine WK ?_ | refine All.i fun X => ?_ | refine AllY.i fun Y => ?_))
        refine lp_next (i + 1) ⟨h, fun j h1 h2 => ?_⟩
        by_cases e : j = i
        · subst e; exact hd
        · exact he j h1 (by omega)
    · have h : ¬ i < a.length := by simpa using hc
      (repeat (first | refine WK ?_ | refine All.i fun X => ?_ | refine AllY.i fun Y => ?_))
      (refine AWP.ret ?_; (repeat (first | refine inB_r ?_ | refine andThen_r ?_)); refine retQ_r ?_); refine Ends.ps ?_
      rw [eqF_yes hb fun j hj => he j hj (by omega)]
end Go.Proofs.YtkoehhpfjpdkcaaGreat

namespace Go.Proofs.YtkoehhpfjpdkcaaGreat
set_option linter.unusedVariables false
theorem equalFuncT_ps (a b : List Item) (f : FuncId) (cap : List AV) (p : Item → Item → Bool) (hs : st1s cap = true) (hl : a.length ≤ 4611686018427387904) (hf : ∀ x ∈ a, ∀ y ∈ b, PS Tryz.prog f ((itemA false) x :: (itemA false) y :: cap) (bA (p x y))) :
    PS Tryz.prog 36 [.lst false 48 3 (a.map (itemA false)), .lst false 48 3 (b.map (itemA false)), .fn f cap] (bA (eqF p a b)) := by
  refine Spec.of (nt := 32) (res := [.tmp 6]) Tryz.func36 rfl (by kernel_rfl) rfl rfl rfl fun Sf => ?_
  (repeat (first | refine WK ?_ | refine All.i fun X => ?_ | refine AllY.i fun Y => ?_))
  refine AWP.cond rfl (fun hb => ?_) (fun hb => ?_)
  · have hb : a.length ≠ b.length := by simp at hb; omega
    (repeat (first | refine WK ?_ | refine All.i fun X => ?_ | refine AllY.i fun Y => ?_))
    (refine AWP.ret ?_; (repeat (first | refine inB_r ?_ | refine andThen_r ?_)); refine retQ_r ?_); refine Ends.ps ?_
    rw [eqF_len hb]
  · have hb : a.length = b.length := by simp at hb; omega
    (repeat (first | refine WK ?_ | refine All.i fun X => ?_ | refine AllY.i fun Y => ?_))
    refine AWP.lp (fun i : Nat => ⟨[(0, .lst false 48 3 (a.map (itemA false))), (1, .lst false 48 3 (b.map (itemA false))), (2, .fn f cap), (15, .lst false 48 3 (a.map (itemA false))), (16, iA (a.map (itemA false)).length), (17, iA i)], Sf⟩) (fun i => i ≤ a.length ∧ ∀ j (h : j < a.length), j < i → p a[j] (b[j]'(by omega)) = true) (fun i => a.length - i) 0 ⟨Nat.zero_le _, fun j h hj => absurd hj (by omega)⟩ ?_
    rintro i ⟨hi, he⟩
    (repeat (first | refine WK ?_ | refine All.i fun X => ?_ | refine AllY.i fun Y => ?_))
    refine AWP.cond rfl (fun hc => ?_) (fun hc => ?_)
    · have h : i < a.length := by simpa using hc
      have h' : i < b.length := by omega
      (repeat (first | (refine AOps.gN ?_; first | (refine AOps.g_callv ?_; first | refine AOps.k2 (h := (hf _ (List.getElem_mem h) _ (List.getElem_mem h'))) (k := ?_))) | refine WK ?_ | refine All.i fun X => ?_ | refine AllY.i fun Y => ?_))
      refine AWP.cond rfl (fun hd => ?_) (fun hd => ?_)
      · have hd : p a[i] b[i] = false := by simpa using hd
        (repeat (first | refine WK ?_ | refine All.i fun X => ?_ | refine AllY.i fun Y => ?_))
        (refine AWP.ret ?_; (repeat (first | refine inB_r ?_ | refine andThen_r ?_)); refine retQ_r ?_); refine Ends.ps ?_
        rw [eqF_no hb h hd]
      · have hd : p a[i] b[i] = true := by simpa using hd
        (repeat (first | refine WK ?_ | refine All.i fun X => ?_ | refine AllY.i fun Y => ?_))
        refine lp_next (i + 1) ⟨h, fun j h1 h2 => ?_⟩
        by_cases e : j = i
        · subst e; exact hd
        · exact he j h1 (by omega)
    · have h : ¬ i < a.length := by simpa using hc
      (repeat (first | refine WK ?_ | refine All.i fun X => ?_ | refine AllY.i fun Y => ?_))
      (refine AWP.ret ?_; (repeat (first | refine inB_r ?_ | refine andThen_r ?_)); refine retQ_r ?_); refine Ends.ps ?_
      rw [eqF_yes hb fun j hj => he j hj (by omega)]
end Go.Proofs.YtkoehhpfjpdkcaaGreat

namespace Go.Proofs.YtkoehhpfjpdkcaaGreat
set_option linter.unusedVariables false
/-- Bounds on the lengths of lists. -/
def KsL (ks : List Kind) : Prop := ks.length ≤ 1099511627776 ∧ ∀ k ∈ ks, k.fields.length ≤ 1099511627776
def CsL (cs : List Comp) : Prop := cs.length ≤ 1099511627776 ∧ ∀ c ∈ cs, c.vals.length ≤ 1099511627776
def ItL (l : List Item) : Prop := l.length ≤ 1099511627776 ∧ ∀ it ∈ l, CsL it.comps
structure WdL (w : Wd) : Prop where
  ks : KsL w.kinds
  gens : w.gens.length ≤ 1099511627776
  items : ItL w.items
theorem compEq (x y : Comp) : (decide (x.kind = y.kind) && decide (x.vals = y.vals)) = decide (x = y) := by
  obtain ⟨k, v⟩ := x
  obtain ⟨k', v'⟩ := y
  rw [Bool.eq_iff_iff]
  simp
theorem itemEq (x y : Item) : (sameE x.ent y.ent && decide (x.comps = y.comps)) = decide (x = y) := by
  rw [sameE_dec]
  obtain ⟨k, v⟩ := x
  obtain ⟨k', v'⟩ := y
  rw [Bool.eq_iff_iff]
  simp
end Go.Proofs.YtkoehhpfjpdkcaaGreat

namespace Go.Proofs.YtkoehhpfjpdkcaaGreat
set_option linter.unusedVariables false
end Go.Proofs.YtkoehhpfjpdkcaaGreat

namespace Go.Proofs.YtkoehhpfjpdkcaaGreat
set_option linter.unusedVariables false
theorem chOk_int (s : List UInt8) (i : Nat) : chOk s i = (decide ((97 : Int) ≤ (s.getD i 0).toNat) && decide (((s.getD i 0).toNat : Int) ≤ 122) || decide ((0 : Int) < i) && decide ((48 : Int) ≤ (s.getD i 0).toNat) && decide (((s.getD i 0).toNat : Int) ≤ 57)) := by
  have h : ∀ a b : UInt8, decide (a ≤ b) = decide ((a.toNat : Int) ≤ b.toNat) := fun a b => by simp [UInt8.le_iff_toNat_le]
  have h0 : decide (0 < i) = decide ((0 : Int) < i) := by simp
  simp only [chOk, lowc, digc, h, h0, Bool.and_assoc]
  rfl
theorem name_ps (s : List UInt8) : PS Tryz.prog 43 [sA s] (bA (nameOk s)) := by
  refine Spec.of (nt := 41) (res := [.tmp 2]) Tryz.func43 rfl (by kernel_rfl) rfl rfl rfl fun Sf => ?_
  (repeat (first | refine WK ?_ | refine All.i fun X => ?_ | refine AllY.i fun Y => ?_))
  refine AWP.cond rfl (fun hb => ?_) (fun hb => ?_)
  · (repeat (first | refine WK ?_ | refine All.i fun X => ?_ | refine AllY.i fun Y => ?_))
    (refine AWP.ret ?_; (repeat (first | refine inB_r ?_ | refine andThen_r ?_)); refine retQ_r ?_)
    refine Ends.plain rfl rfl (by exact Sub.f) ⟨?_, rfl⟩
    rw [nameOk_long s (by simp only [Bool.or_eq_true, decide_eq_true_eq] at hb; omega)]
  have hb1 : s.length ≠ 0 ∧ s.length ≤ 16 := by simp only [Bool.or_eq_false_iff, decide_eq_false_iff_not] at hb; omega
  (repeat (first | refine AWP.loopR (fun i : Nat => ⟨[(0, sA s), (14, iA s.length), (15, iA i)], Sf⟩) (fun i => i ≤ s.length ∧ ∀ j, j < i → chOk s j = true) (fun i => s.length - i) 0 ⟨by omega, by omega⟩ ⟨.cons rfl (.cons rfl (.cons rfl .nil)), List.Sublist.refl _⟩ ?_ | refine WK ?_ | refine All.i fun X => ?_ | refine AllY.i fun Y => ?_))
  rintro i ⟨hi, hn⟩
  (repeat (first | refine WK ?_ | refine All.i fun X => ?_ | refine AllY.i fun Y => ?_))
  refine AWP.cond rfl (fun hb => ?_) (fun hb => ?_)
  · have h : i < s.length := by simpa using hb
    (repeat (first | (refine AOps.gN ?_; first | refine AOps.p (W.idxStr rfl rfl rfl h) rfl ?_) | refine WK ?_ | refine All.i fun X => ?_ | refine AllY.i fun Y => ?_))
    refine AWP.cond rfl (fun hc => ?_) (fun hc => ?_)
    · (repeat (first | refine WK ?_ | refine All.i fun X => ?_ | refine AllY.i fun Y => ?_))
      (refine AWP.ret ?_; (repeat (first | refine inB_r ?_ | refine andThen_r ?_)); refine retQ_r ?_)
      refine Ends.plain rfl rfl (by exact Sub.f) ⟨?_, rfl⟩
      rw [← chOk_int] at hc
      rw [nameOk_no s i h (by simpa using hc)]
    · (repeat (first | refine WK ?_ | refine All.i fun X => ?_ | refine AllY.i fun Y => ?_))
      refine ⟨i + 1, ⟨by omega, fun j hj => ?_⟩, by omega, .cons rfl (.cons rfl (.cons rfl .nil)), by exact Sub.f⟩
      rw [← chOk_int] at hc
      by_cases e : j = i
      · subst e; simpa using hc
      · exact hn j (by omega)
  · have h : ¬ i < s.length := by simpa using hb
    (repeat (first | refine WK ?_ | refine All.i fun X => ?_ | refine AllY.i fun Y => ?_))
    (refine AWP.ret ?_; (repeat (first | refine inB_r ?_ | refine andThen_r ?_)); refine retQ_r ?_)
    refine Ends.plain rfl rfl (by exact Sub.f) ⟨?_, rfl⟩
    rw [nameOk_yes s (by omega) hb1.2 fun j hj => hn j (by omega)]
end Go.Proofs.YtkoehhpfjpdkcaaGreat

namespace Go.Proofs.YtkoehhpfjpdkcaaGreat
set_option linter.unusedVariables false
theorem field_ps (f : Field) : PS Tryz.prog 89 [fieldA f] (iA (fieldErr f)) := by
  refine Spec.of (nt := 27) (res := [.tmp 2]) Tryz.func89 rfl (by kernel_rfl) rfl rfl rfl fun Sf => ?_
  (repeat (first | (refine AOps.gN ?_; first | refine AOps.p (W.call1 rfl (name_ps _) rfl) rfl ?_) | refine WK ?_ | refine All.i fun X => ?_ | refine AllY.i fun Y => ?_))
  refine AWP.cond rfl (fun hb => ?_) (fun hb => ?_)
  · (repeat (first | refine WK ?_ | refine All.i fun X => ?_ | refine AllY.i fun Y => ?_))
    (refine AWP.ret ?_; (repeat (first | refine inB_r ?_ | refine andThen_r ?_)); refine retQ_r ?_)
    refine Ends.plain rfl rfl (by exact Sub.f) ⟨?_, rfl⟩
    rw [fieldErr_no f fun hn hk => ?_]
    simp only [hn, Bool.not_true, Bool.false_or, Bool.or_eq_true, decide_eq_true_eq] at hb
    omega
  · (repeat (first | refine WK ?_ | refine All.i fun X => ?_ | refine AllY.i fun Y => ?_))
    (refine AWP.ret ?_; (repeat (first | refine inB_r ?_ | refine andThen_r ?_)); refine retQ_r ?_)
    refine Ends.plain rfl rfl (by exact Sub.f) ⟨?_, rfl⟩
    simp only [Bool.or_eq_false_iff, Bool.not_eq_false', decide_eq_false_iff_not] at hb
    rw [fieldErr_ok f hb.1.1.1.1 (by omega)]
end Go.Proofs.YtkoehhpfjpdkcaaGreat

namespace Go.Proofs.YtkoehhpfjpdkcaaGreat
set_option linter.unusedVariables false
theorem high_ps (f : Field) : PS Tryz.prog 90 [fieldA f] (iA (highOf f)) := by
  refine Spec.of (nt := 13) (res := [.tmp 2]) Tryz.func90 rfl (by kernel_rfl) rfl rfl rfl fun Sf => ?_
  (repeat (first | (refine AOps.gN ?_; first | refine AOps.p (W.call1 rfl (field_ps _) rfl) rfl ?_) | refine WK ?_ | refine All.i fun X => ?_ | refine AllY.i fun Y => ?_))
  refine AWP.cond rfl (fun hb => ?_) (fun hb => ?_)
  · have hb : fieldErr f ≠ 0 := by simpa using hb
    (repeat (first | refine WK ?_ | refine All.i fun X => ?_ | refine AllY.i fun Y => ?_))
    (refine AWP.ret ?_; (repeat (first | refine inB_r ?_ | refine andThen_r ?_)); refine retQ_r ?_)
    refine Ends.plain rfl rfl (by exact Sub.f) ⟨?_, rfl⟩
    simp [highOf, hb]
  have hb : fieldErr f = 0 := by simpa using hb
  have h1 := (fieldErr_eq_zero f).1 hb
  obtain ⟨n, hn⟩ : ∃ n : Nat, f.bits = n := ⟨f.bits.toNat, by omega⟩
  have hp : (2 : Int) ^ n ≤ 4294967296 ∧ 1 ≤ (2 : Int) ^ n := by
    have hn2 : n ≤ 32 := by omega
    clear hn
    have : ∀ n, n ≤ 32 → (2 : Int) ^ n ≤ 4294967296 ∧ 1 ≤ (2 : Int) ^ n := by decide
    exact this n hn2
  have hw : IntKind.i64.wrap (1 * 2 ^ n) = 2 ^ n := by rw [Int.one_mul]; exact wrap_id (by omega) (by omega)
  (repeat (first | refine WK ?_ | refine All.i fun X => ?_ | refine AllY.i fun Y => ?_))
  (repeat refine WF ?_); refine AWP.region_run (by kernel_rfl) (by kernel_rfl) ?_; (repeat (first | (refine RGo.gN ?_; first | refine RGo.p (W.shl rfl rfl hn (by show n ≤ 64; omega)) rfl ?_ | refine RGo.p (W.sub rfl rfl (by rw [hw]; omega)) rfl ?_ | refine RGo.p (W.add rfl rfl (by rw [hw]; omega)) rfl ?_) | (refine RGo.gQ ?_; first | refine RGo.p (W.shl rfl rfl hn (by show n ≤ 64; omega)) rfl ?_ | refine RGo.p (W.sub rfl rfl (by rw [hw]; omega)) rfl ?_ | refine RGo.p (W.add rfl rfl (by rw [hw]; omega)) rfl ?_) | refine RK ?_ | refine RGo.nil (by kernel_rfl) ?_))
  (repeat (first | refine WK ?_ | refine All.i fun X => ?_ | refine AllY.i fun Y => ?_))
  (refine AWP.ret ?_; (repeat (first | refine inB_r ?_ | refine andThen_r ?_)); refine retQ_r ?_)
  refine Ends.plain rfl rfl (by exact Sub.f) ⟨?_, rfl⟩
  simp only [hw]
  simp [highOf, hb, hn]
theorem near_ps (f : Field) (v : Int) : PS Tryz.prog 60 [fieldA f, iA v] (iA (nearOf f v)) := by
  refine Spec.of (nt := 15) (res := [.tmp 4]) Tryz.func60 rfl (by kernel_rfl) rfl rfl rfl fun Sf => ?_
  (repeat (first | (refine AOps.gN ?_; first | refine AOps.p (W.call1 rfl (field_ps _) rfl) rfl ?_) | refine WK ?_ | refine All.i fun X => ?_ | refine AllY.i fun Y => ?_))
  refine AWP.cond rfl (fun hb => ?_) (fun hb => ?_)
  · have hb : fieldErr f ≠ 0 := by simpa using hb
    (repeat (first | refine WK ?_ | refine All.i fun X => ?_ | refine AllY.i fun Y => ?_))
    (refine AWP.ret ?_; (repeat (first | refine inB_r ?_ | refine andThen_r ?_)); refine retQ_r ?_)
    refine Ends.plain rfl rfl (by exact Sub.f) ⟨?_, rfl⟩
    simp [nearOf, hb]
  have hb : fieldErr f = 0 := by simpa using hb
  (repeat (first | refine WK ?_ | refine All.i fun X => ?_ | refine AllY.i fun Y => ?_))
  (repeat refine WF ?_); refine AWP.region_run (by kernel_rfl) (by kernel_rfl) ?_; (repeat (first | (refine RGo.gN ?_; first | refine RGo.p (W.call1 rfl (high_ps _) rfl) rfl ?_) | (refine RGo.gQ ?_; first | refine RGo.p (W.call1 rfl (high_ps _) rfl) rfl ?_) | refine RK ?_ | refine RGo.nil (by kernel_rfl) ?_))
  (repeat (first | refine WK ?_ | refine All.i fun X => ?_ | refine AllY.i fun Y => ?_))
  (refine AWP.ret ?_; (repeat (first | refine inB_r ?_ | refine andThen_r ?_)); refine retQ_r ?_)
  refine Ends.plain rfl rfl (by exact Sub.f) ⟨?_, rfl⟩
  rw [show nearOf f v = max f.low (min v (highOf f)) from by simp [nearOf, hb]]
  simp only [Int.max_def, Int.min_def]
  congr 2
  (repeat' split) <;> omega
end Go.Proofs.YtkoehhpfjpdkcaaGreat

namespace Go.Proofs.YtkoehhpfjpdkcaaGreat
set_option linter.unusedVariables false
theorem one_ps (k : Kind) : PS Tryz.prog 72 [kindA false k] (iA (oneErr k)) := by
  refine Spec.of (nt := 45) (res := [.tmp 2]) Tryz.func72 rfl (by kernel_rfl) rfl rfl rfl fun Sf => ?_
  (repeat (first | (refine AOps.gN ?_; first | refine AOps.p (W.call1 rfl (name_ps _) rfl) rfl ?_ | (refine AOps.rs fun X1 => ?_; refine AOps.s (W.box rfl .here rfl) rfl ?_)) | refine WK ?_ | refine All.i fun X => ?_ | refine AllY.i fun Y => ?_))
  refine AWP.cond rfl (fun hb => ?_) (fun hb => ?_)
  · (repeat (first | refine WK ?_ | refine All.i fun X => ?_ | refine AllY.i fun Y => ?_))
    (refine AWP.ret ?_; (repeat (first | refine inB_r ?_ | refine andThen_r ?_)); refine retQ_r ?_)
    refine Ends.plain rfl rfl (by exact Sub.f) ⟨?_, rfl⟩
    have hb : nameOk k.name = false := by simpa using hb
    rw [show oneErr k = 3 from by simp [oneErr, hb]]
  have hn : nameOk k.name = true := by simpa using hb
  (repeat (first | refine WK ?_ | refine All.i fun X => ?_ | refine AllY.i fun Y => ?_))
  refine AWP.cond rfl (fun hb => ?_) (fun hb => ?_)
  · (repeat (first | refine WK ?_ | refine All.i fun X => ?_ | refine AllY.i fun Y => ?_))
    (refine AWP.ret ?_; (repeat (first | refine inB_r ?_ | refine andThen_r ?_)); refine retQ_r ?_)
    refine Ends.plain rfl rfl (by exact Sub.f) ⟨?_, rfl⟩
    have hb : 8 < k.fields.length := by rw [decide_eq_true_eq, List.length_map] at hb; omega
    rw [show oneErr k = 2 from by simp [oneErr, hn, hb]]
  have hl : k.fields.length ≤ 8 := by rw [decide_eq_false_iff_not, List.length_map] at hb; omega
  have e1 : oneErr k = fieldsErr [] k.fields := by simp [oneErr, hn]; omega
  (repeat (first | refine AWP.loopR (fun i : Nat => ⟨[(1, .ptr X1 0 0), (17, fieldsA false k.fields), (18, iA (k.fields.map fieldA).length), (19, iA i)], (X1, .row 102 2 [kindA false k]) :: Sf⟩) (fun i => i ≤ k.fields.length ∧ fieldsErr [] k.fields = fieldsErr (k.fields.take i) (k.fields.drop i)) (fun i => k.fields.length - i) 0 ⟨by omega, rfl⟩ ⟨.cons rfl (.cons rfl (.cons rfl (.cons rfl .nil))), by exact Sub.f⟩ ?_ | refine WK ?_ | refine All.i fun X => ?_ | refine AllY.i fun Y => ?_))
  rintro i ⟨hi, he⟩
  (repeat (first | refine WK ?_ | refine All.i fun X => ?_ | refine AllY.i fun Y => ?_))

  refine AWP.cond rfl (fun hb => ?_) (fun hb => ?_)
  · have h : i < k.fields.length := by simpa using hb
    (repeat (first | (refine AOps.gN ?_; first | refine AOps.p (W.idxL rfl rfl rfl (map_at _ h)) rfl ?_ | refine AOps.p (W.call1 rfl (field_ps _) rfl) rfl ?_) | refine WK ?_ | refine All.i fun X => ?_ | refine AllY.i fun Y => ?_))
    refine AWP.cond rfl (fun hc => ?_) (fun hc => ?_)
    · have hc : fieldErr k.fields[i] ≠ 0 := by simpa using hc
      (repeat (first | refine WK ?_ | refine All.i fun X => ?_ | refine AllY.i fun Y => ?_))
      (refine AWP.ret ?_; (repeat (first | refine inB_r ?_ | refine andThen_r ?_)); refine retQ_r ?_)
      refine Ends.plain rfl rfl (by exact Sub.f) ⟨?_, rfl⟩
      rw [e1, he, fieldsErr_at h, fieldsErr_bad hc]
      rfl
    have hc : fieldErr k.fields[i] = 0 := by simpa using hc
    have hmt : ((k.fields.map fieldA).take i).length = i := by simp; omega
    (repeat (first | (refine AOps.gN ?_; first | refine AOps.p (W.hiL rfl rfl rfl (by simp; omega)) rfl ?_) | refine AWP.loopR (fun j : Nat => ⟨[(1, .ptr X1 0 0), (17, fieldsA false k.fields), (18, iA (k.fields.map fieldA).length), (19, iA i), (3, iA i), (4, .ptr X 0 0), (32, .lst false 99 3 ((k.fields.map fieldA).take i)), (33, iA ((k.fields.map fieldA).take i).length), (34, iA j)], (X, .row 99 3 [fieldA k.fields[i]]) :: (X1, .row 102 2 [kindA false k]) :: Sf⟩) (fun j => j ≤ i ∧ ∀ q (hq : q < k.fields.length), q < j → k.fields[q].name ≠ k.fields[i].name) (fun j => i - j) 0 ⟨by omega, by omega⟩ ⟨.cons rfl (.cons rfl (.cons rfl (.cons rfl (.cons rfl (.cons rfl (.cons rfl (.cons rfl (.cons rfl .nil)))))))), by exact Sub.f⟩ ?_ | refine WK ?_ | refine All.i fun X => ?_ | refine AllY.i fun Y => ?_))
    rintro j ⟨hj, hne⟩
    (repeat (first | refine WK ?_ | refine All.i fun X => ?_ | refine AllY.i fun Y => ?_))
    refine AWP.cond rfl (fun hd => ?_) (fun hd => ?_)
    · have hd : j < i := by rw [hmt] at hd; simpa using hd
      have hat : ((k.fields.map fieldA).take i)[j]? = some (fieldA (k.fields[j]'(by omega))) := by rw [List.getElem?_take_of_lt hd]; exact map_at _ _
      (repeat (first | (refine AOps.gN ?_; first | refine AOps.p (W.idxL rfl rfl rfl hat) rfl ?_) | refine WK ?_ | refine All.i fun X => ?_ | refine AllY.i fun Y => ?_))
      refine AWP.cond rfl (fun hq => ?_) (fun hq => ?_)
      · have hq : (k.fields[j]'(by omega)).name = k.fields[i].name := by simpa using hq
        (repeat (first | refine WK ?_ | refine All.i fun X => ?_ | refine AllY.i fun Y => ?_))
        (refine AWP.ret ?_; (repeat (first | refine inB_r ?_ | refine andThen_r ?_)); refine retQ_r ?_)
        refine Ends.plain rfl rfl (by exact Sub.f) ⟨?_, rfl⟩
        rw [e1, he, fieldsErr_at h, fieldsErr_twice hc (j := j) (by simp; omega) (by simpa using hq)]
      · have hq : (k.fields[j]'(by omega)).name ≠ k.fields[i].name := by simpa using hq
        (repeat (first | refine WK ?_ | refine All.i fun X => ?_ | refine AllY.i fun Y => ?_))
        refine ⟨j + 1, ⟨by omega, fun q hq1 hq2 => ?_⟩, by omega, .cons rfl (.cons rfl (.cons rfl (.cons rfl (.cons rfl (.cons rfl (.cons rfl (.cons rfl (.cons rfl .nil)))))))), by exact Sub.f⟩
        by_cases e : q = j
        · subst e; exact hq
        · exact hne q hq1 (by omega)
    · have hd : ¬ j < i := by rw [hmt] at hd; simpa using hd
      (repeat (first | refine WK ?_ | refine All.i fun X => ?_ | refine AllY.i fun Y => ?_))
      refine ⟨i + 1, ⟨by omega, ?_⟩, by omega, .cons rfl (.cons rfl (.cons rfl (.cons rfl .nil))), by exact Sub.f⟩
      rw [he, fieldsErr_at h, fieldsErr_next hc fun q hq => ?_, List.take_add_one, List.getElem?_eq_getElem h]
      · rfl
      · simp only [List.getElem_take]
        exact hne q (by simp at hq; omega) (by simp at hq; omega)
  · have h : ¬ i < k.fields.length := by simpa using hb
    (repeat (first | refine WK ?_ | refine All.i fun X => ?_ | refine AllY.i fun Y => ?_))
    (refine AWP.ret ?_; (repeat (first | refine inB_r ?_ | refine andThen_r ?_)); refine retQ_r ?_)
    refine Ends.plain rfl rfl (by exact Sub.f) ⟨?_, rfl⟩
    rw [e1, he, fieldsErr_end (by omega)]
end Go.Proofs.YtkoehhpfjpdkcaaGreat

namespace Go.Proofs.YtkoehhpfjpdkcaaGreat
set_option linter.unusedVariables false
theorem oneErr_len {k : Kind} (h : oneErr k = 0) : k.fields.length ≤ 8 := by
  unfold oneErr at h
  split at h
  · split at h
    · cases h
    · omega
  · cases h
def fitL (k : Kind) (vals : List Int) (i : Nat) : List Int := (List.zipWith nearOf k.fields vals).take i ++ List.replicate (vals.length - i) 0
theorem fitL_at {k : Kind} {vals : List Int} {i : Nat} (hl : vals.length = k.fields.length) (h : i < vals.length) : ((fitL k vals i).map iA)[i]? = some (iA 0) := by
  have hz : (List.zipWith nearOf k.fields vals).length = vals.length := by simp; omega
  rw [List.getElem?_map, fitL, List.getElem?_append_right (by simp; omega)]
  rw [List.length_take, Nat.min_eq_left (by omega), Nat.sub_self, List.getElem?_replicate, if_pos (by omega)]
  rfl
theorem fitL_set {k : Kind} {vals : List Int} {i : Nat} (hl : vals.length = k.fields.length) (h : i < vals.length) : ((fitL k vals i).map iA).set i (iA (nearOf (k.fields[i]'(by omega)) vals[i])) = (fitL k vals (i + 1)).map iA := by
  have hz : (List.zipWith nearOf k.fields vals).length = vals.length := by simp; omega
  rw [← List.map_set]
  congr 1
  unfold fitL
  rw [List.set_append_right _ _ (by simp; omega), List.length_take, Nat.min_eq_left (by omega), Nat.sub_self]
  rw [show vals.length - i = (vals.length - (i + 1)) + 1 from by omega, List.replicate_succ, List.set_cons_zero]
  rw [List.take_add_one, List.getElem?_eq_getElem (by omega), List.append_assoc]
  simp
theorem fit_ps (k : Kind) (vals : List Int) : PS Tryz.prog 80 [kindA false k, intsA false vals] (.tup [intsA true (fitOf k vals).1, iA (fitOf k vals).2]) := by
  refine Spec.of (nt := 43) (res := [.tmp 4, .tmp 5]) Tryz.func80 rfl (by kernel_rfl) rfl rfl rfl fun Sf => ?_
  (repeat (first | (refine AOps.gN ?_; first | refine AOps.p (W.call1 rfl (one_ps _) rfl) rfl ?_ | (refine AOps.rs fun B => ?_; refine AOps.s (W.box rfl .here rfl) rfl ?_)) | refine WK ?_ | refine All.i fun X => ?_ | refine AllY.i fun Y => ?_))
  refine AWP.cond rfl (fun hb => ?_) (fun hb => ?_)
  · have hb : oneErr k ≠ 0 := by simpa using hb
    (repeat (first | refine WK ?_ | refine All.i fun X => ?_ | refine AllY.i fun Y => ?_))
    (refine AWP.ret ?_; (repeat (first | refine inB_r ?_ | refine andThen_r ?_)); refine retQ_r ?_)
    rw [show fitOf k vals = ([], oneErr k) from by simp [fitOf, hb]]
    exact ⟨[.prim (.slice none 0 0), iA (oneErr k)], [intsA true [], iA (oneErr k)], _, [], .cons (.tmp rfl) rfl (.cons (.tmp rfl) rfl .nil), .cons (.cell .nil) (.cons (.cell .same) .nil), by exact Sub.f, rfl, rfl⟩
  have hk : oneErr k = 0 := by simpa using hb
  have h8 := oneErr_len hk
  (repeat (first | refine WK ?_ | refine All.i fun X => ?_ | refine AllY.i fun Y => ?_))
  refine AWP.cond rfl (fun hb => ?_) (fun hb => ?_)
  · have hb : vals.length ≠ k.fields.length := by rw [decide_eq_true_eq, List.length_map, List.length_map] at hb; omega
    (repeat (first | refine WK ?_ | refine All.i fun X => ?_ | refine AllY.i fun Y => ?_))
    (refine AWP.ret ?_; (repeat (first | refine inB_r ?_ | refine andThen_r ?_)); refine retQ_r ?_)
    rw [show fitOf k vals = ([], 1) from by simp [fitOf, hk, hb]]
    exact ⟨[.prim (.slice none 0 0), iA 1], [intsA true [], iA 1], _, [], .cons (.tmp rfl) rfl (.cons (.tmp rfl) rfl .nil), .cons (.cell .nil) (.cons (.cell .same) .nil), by exact Sub.f, rfl, rfl⟩
  have hl : vals.length = k.fields.length := by rw [decide_eq_false_iff_not, List.length_map, List.length_map] at hb; omega
  have hv : (vals.map iA).length ≤ 8 := by simp; omega
  have hz : List.replicate (vals.map iA).length (zAV [.int .i64 0] false) = (fitL k vals 0).map iA := by simp [fitL]; exact .inr rfl
  (repeat (first | (refine AOps.gN ?_; first | (refine AOps.rs fun XL => ?_; refine AOps.s (W.make rfl rfl .here rfl (.inr rfl) rfl rfl (Nat.le_refl _) (by omega) (Nat.le_trans hv (by decide))) rfl ?_)) | refine AWP.loopR (fun i : Nat => ⟨[(1, intsA false vals), (7, .sl XL 0 (vals.map iA).length), (25, fieldsA false k.fields), (26, iA (k.fields.map fieldA).length), (27, iA i)], (XL, .row 3 1 ((fitL k vals i).map iA)) :: (B, .row 102 2 [kindA false k]) :: Sf⟩) (fun i => i ≤ vals.length) (fun i => vals.length - i) 0 (Nat.zero_le _) ⟨.cons rfl (.cons rfl (.cons rfl (.cons rfl (.cons rfl .nil)))), (by show List.Sublist ((XL, .row 3 1 ((fitL k vals 0).map iA)) :: (B, .row 102 2 [kindA false k]) :: Sf) _; rw [← hz]; exact Sub.f)⟩ ?_ | refine WK ?_ | refine All.i fun X => ?_ | refine AllY.i fun Y => ?_))
  rintro i hi
  (repeat (first | refine WK ?_ | refine All.i fun X => ?_ | refine AllY.i fun Y => ?_))
  refine AWP.cond rfl (fun hb => ?_) (fun hb => ?_)
  · have h : i < vals.length := by rw [decide_eq_true_eq, List.length_map] at hb; omega
    have h' : i < k.fields.length := by omega
    (repeat (first | (refine AOps.gN ?_; first | refine AOps.p (W.idxL rfl rfl rfl (map_at _ h')) rfl ?_) | refine WK ?_ | refine All.i fun X => ?_ | refine AllY.i fun Y => ?_))
    (repeat refine WF ?_); refine AWP.region_run (by kernel_rfl) (by kernel_rfl) ?_; (repeat (first | (refine RGo.gN ?_; first | refine RGo.p (W.idxL rfl rfl rfl (map_at _ h)) rfl ?_ | refine RGo.p (W.call2 rfl rfl (near_ps _ _) rfl) rfl ?_ | refine RGo.p (W.idx rfl rfl (by exact At.f) rfl (by simpa using h) (Nat.zero_add _)) rfl ?_ | refine RGo.s (W.store rfl rfl (by exact At.f) (fitL_at hl h) (by exact rfl)) rfl ?_) | (refine RGo.gQ ?_; first | refine RGo.p (W.idxL rfl rfl rfl (map_at _ h)) rfl ?_ | refine RGo.p (W.call2 rfl rfl (near_ps _ _) rfl) rfl ?_ | refine RGo.p (W.idx rfl rfl (by exact At.f) rfl (by simpa using h) (Nat.zero_add _)) rfl ?_ | refine RGo.s (W.store rfl rfl (by exact At.f) (fitL_at hl h) (by exact rfl)) rfl ?_) | refine RK ?_ | refine RGo.nil (by kernel_rfl) ?_))
    (repeat (first | refine WK ?_ | refine All.i fun X => ?_ | refine AllY.i fun Y => ?_))
    refine ⟨i + 1, by omega, by omega, .cons rfl (.cons rfl (.cons rfl (.cons rfl (.cons rfl .nil)))), ?_⟩
    show List.Sublist ((XL, .row 3 1 ((fitL k vals (i + 1)).map iA)) :: (B, .row 102 2 [kindA false k]) :: Sf) _
    rw [← fitL_set hl h]
    exact Sub.f
  · have h : ¬ i < vals.length := by rw [decide_eq_false_iff_not, List.length_map] at hb; omega
    (repeat (first | refine WK ?_ | refine All.i fun X => ?_ | refine AllY.i fun Y => ?_))
    (refine AWP.ret ?_; (repeat (first | refine inB_r ?_ | refine andThen_r ?_)); refine retQ_r ?_)
    rw [show fitOf k vals = (List.zipWith nearOf k.fields vals, 0) from by simp [fitOf, hk, hl]]
    have he : (fitL k vals i).map iA = (List.zipWith nearOf k.fields vals).map iA := by
      congr 1
      rw [fitL, show vals.length - i = 0 from by omega, List.take_of_length_le (by simp; omega)]
      simp
    refine ⟨[.sl XL 0 (vals.map iA).length, iA 0], [.lst true 3 1 ((fitL k vals i).map iA), iA 0], _, [], .cons (.tmp rfl) rfl (.cons (.tmp rfl) rfl .nil), .cons (.cell (.sl (p := 0) .here (by rw [he]; simp; omega))) (.cons (.cell .same) .nil), by exact Sub.f, ?_, rfl⟩
    rw [he]
    rfl
end Go.Proofs.YtkoehhpfjpdkcaaGreat

namespace Go.Proofs.YtkoehhpfjpdkcaaGreat
set_option linter.unusedVariables false
theorem fitOf_len8 {k : Kind} {vals : List Int} (h : (fitOf k vals).2 = 0) : (fitOf k vals).1.length = vals.length ∧ vals.length ≤ 8 := by
  unfold fitOf at h ⊢
  split
  · rename_i h1; rw [if_pos h1] at h; exact absurd h h1
  · rename_i h1
    rw [if_neg h1] at h
    split
    · rename_i h2; rw [if_pos h2] at h; cases h
    · rename_i h2; have := oneErr_len (Decidable.not_not.1 h1); simp; omega
theorem holds_ps (k : Kind) (vals : List Int) : PS Tryz.prog 74 [kindA false k, intsA false vals] (bA (holdsOf k vals)) := by
  refine Spec.of (nt := 31) (res := [.tmp 4]) Tryz.func74 rfl (by kernel_rfl) rfl rfl rfl fun Sf => ?_
  have hfr : (AV.tup [intsA true (fitOf k vals).1, iA (fitOf k vals).2]).frz = .tup [intsA false (fitOf k vals).1, iA (fitOf k vals).2] := by
    show AV.tup [(intsA true (fitOf k vals).1).frz, _] = _
    rw [intsA_frz]
    rfl
  (repeat (first | (refine AOps.gN ?_; first | refine AOps.p (W.callF2 rfl rfl (fit_ps _ _) rfl hfr) rfl ?_) | refine WK ?_ | refine All.i fun X => ?_ | refine AllY.i fun Y => ?_))
  refine AWP.cond rfl (fun hb => ?_) (fun hb => ?_)
  · have hb : (fitOf k vals).2 ≠ 0 := by simpa using hb
    (repeat (first | refine WK ?_ | refine All.i fun X => ?_ | refine AllY.i fun Y => ?_))
    (refine AWP.ret ?_; (repeat (first | refine inB_r ?_ | refine andThen_r ?_)); refine retQ_r ?_)
    refine Ends.plain rfl rfl (by exact Sub.f) ⟨?_, rfl⟩
    simp [holdsOf, hb]
  have hb : (fitOf k vals).2 = 0 := by simpa using hb
  obtain ⟨hlen, h8⟩ := fitOf_len8 hb
  obtain ⟨fl, hfl⟩ : ∃ fl, fl = (fitOf k vals).1 := ⟨_, rfl⟩
  rw [← hfl] at hlen
  rw [show holdsOf k vals = decide (fl = vals) from by simp [holdsOf, hb, hfl]]
  rw [← hfl]
  clear hfr
  (repeat (first | refine AWP.loopR (fun i : Nat => ⟨[(1, intsA false vals), (5, intsA false fl), (17, iA (fl.map iA).length), (18, iA i)], Sf⟩) (fun i => i ≤ vals.length ∧ ∀ j (h : j < vals.length), j < i → fl[j]'(by omega) = vals[j]) (fun i => vals.length - i) 0 ⟨Nat.zero_le _, fun j h hj => absurd hj (by omega)⟩ ⟨.cons rfl (.cons rfl (.cons rfl (.cons rfl .nil))), by exact Sub.f⟩ ?_ | refine WK ?_ | refine All.i fun X => ?_ | refine AllY.i fun Y => ?_))
  rintro i ⟨hi, he⟩
  (repeat (first | refine WK ?_ | refine All.i fun X => ?_ | refine AllY.i fun Y => ?_))
  refine AWP.cond rfl (fun hc => ?_) (fun hc => ?_)
  · have h : i < fl.length := by rw [decide_eq_true_eq, List.length_map] at hc; omega
    have h' : i < vals.length := by omega
    (repeat (first | refine WK ?_ | refine All.i fun X => ?_ | refine AllY.i fun Y => ?_))
    (repeat refine WF ?_); refine AWP.region_run (by kernel_rfl) (by kernel_rfl) ?_; (repeat (first | (refine RGo.gN ?_; first | refine RGo.p (W.idxL rfl rfl rfl (map_at _ h)) rfl ?_ | refine RGo.p (W.idxL rfl rfl rfl (map_at _ h')) rfl ?_) | (refine RGo.gQ ?_; first | refine RGo.p (W.idxL rfl rfl rfl (map_at _ h)) rfl ?_ | refine RGo.p (W.idxL rfl rfl rfl (map_at _ h')) rfl ?_) | refine RK ?_ | refine RGo.nil (by kernel_rfl) ?_))
    (repeat (first | refine WK ?_ | refine All.i fun X => ?_ | refine AllY.i fun Y => ?_))
    refine AWP.cond rfl (fun hd => ?_) (fun hd => ?_)
    · have hd : fl[i] ≠ vals[i] := by simpa using hd
      (repeat (first | refine WK ?_ | refine All.i fun X => ?_ | refine AllY.i fun Y => ?_))
      (refine AWP.ret ?_; (repeat (first | refine inB_r ?_ | refine andThen_r ?_)); refine retQ_r ?_)
      refine Ends.plain rfl rfl (by exact Sub.f) ⟨?_, rfl⟩
      rw [decide_eq_false (fun e => hd (by subst e; rfl))]
    · have hd : fl[i] = vals[i] := by simpa using hd
      (repeat (first | refine WK ?_ | refine All.i fun X => ?_ | refine AllY.i fun Y => ?_))
      refine ⟨i + 1, ⟨by omega, fun j h1 h2 => ?_⟩, by omega, .cons rfl (.cons rfl (.cons rfl (.cons rfl .nil))), by exact Sub.f⟩
      by_cases e : j = i
      · subst e; exact hd
      · exact he j h1 (by omega)
  · have h : ¬ i < fl.length := by rw [decide_eq_false_iff_not, List.length_map] at hc; omega
    (repeat (first | refine WK ?_ | refine All.i fun X => ?_ | refine AllY.i fun Y => ?_))
    (refine AWP.ret ?_; (repeat (first | refine inB_r ?_ | refine andThen_r ?_)); refine retQ_r ?_)
    refine Ends.plain rfl rfl (by exact Sub.f) ⟨?_, rfl⟩
    rw [decide_eq_true (List.ext_getElem hlen fun j h1 h2 => he j h2 (by omega))]
end Go.Proofs.YtkoehhpfjpdkcaaGreat

namespace Go.Proofs.YtkoehhpfjpdkcaaGreat
set_option linter.unusedVariables false
theorem find_ps (l : List Kind) (name : List UInt8) (hl : l.length ≤ 1099511627776) : PS Tryz.prog 73 [kindsA false false l, sA name] (iA (findKind l name)) := by
  refine Spec.of (nt := 20) (res := [.tmp 4]) Tryz.func73 rfl (by kernel_rfl) rfl rfl rfl fun Sf => ?_
  (repeat (first | refine AWP.loopR (fun i : Nat => ⟨[(1, sA name), (7, kindsA false false l), (8, iA (l.map (kindA false)).length), (9, iA i)], Sf⟩) (fun i => i ≤ l.length ∧ ∀ j (h : j < l.length), j < i → l[j].name ≠ name) (fun i => l.length - i) 0 ⟨by omega, by omega⟩ ⟨.cons rfl (.cons rfl (.cons rfl (.cons rfl .nil))), List.Sublist.refl _⟩ ?_ | refine WK ?_ | refine All.i fun X => ?_ | refine AllY.i fun Y => ?_))
  rintro i ⟨hi, hn⟩
  (repeat (first | refine WK ?_ | refine All.i fun X => ?_ | refine AllY.i fun Y => ?_))
  refine AWP.cond rfl (fun hb => ?_) (fun hb => ?_)
  · have h : i < l.length := by simpa using hb
    (repeat (first | (refine AOps.gN ?_; first | refine AOps.p (W.idxL rfl rfl rfl (map_at _ h)) rfl ?_) | refine WK ?_ | refine All.i fun X => ?_ | refine AllY.i fun Y => ?_))
    refine AWP.cond rfl (fun hc => ?_) (fun hc => ?_)
    · have hc : l[i].name = name := by simpa using hc
      (repeat (first | refine WK ?_ | refine All.i fun X => ?_ | refine AllY.i fun Y => ?_))
      (refine AWP.ret ?_; (repeat (first | refine inB_r ?_ | refine andThen_r ?_)); refine retQ_r ?_)
      refine Ends.plain rfl rfl (by exact Sub.f) ⟨?_, rfl⟩
      rw [findKind_some h hc fun j hj => hn j (by omega) hj]
    · have hc : l[i].name ≠ name := by simpa using hc
      (repeat (first | refine WK ?_ | refine All.i fun X => ?_ | refine AllY.i fun Y => ?_))
      refine ⟨i + 1, ⟨by omega, fun j hj hji => ?_⟩, by omega, .cons rfl (.cons rfl (.cons rfl (.cons rfl .nil))), by exact Sub.f⟩
      by_cases e : j = i
      · subst e; exact hc
      · exact hn j hj (by omega)
  · have h : ¬ i < l.length := by simpa using hb
    (repeat (first | refine WK ?_ | refine All.i fun X => ?_ | refine AllY.i fun Y => ?_))
    (refine AWP.ret ?_; (repeat (first | refine inB_r ?_ | refine andThen_r ?_)); refine retQ_r ?_)
    refine Ends.plain rfl rfl (by exact Sub.f) ⟨?_, rfl⟩
    rw [findKind_none fun j hj => hn j hj (by omega)]
end Go.Proofs.YtkoehhpfjpdkcaaGreat

namespace Go.Proofs.YtkoehhpfjpdkcaaGreat
set_option linter.unusedVariables false
theorem check_ps (l : List Kind) : PS Tryz.prog 41 [kindsA false false l] (iA (checkErr l)) := by
  refine Spec.of (nt := 29) (res := [.tmp 2]) Tryz.func41 rfl (by kernel_rfl) rfl rfl rfl fun Sf => ?_
  (repeat (first | refine WK ?_ | refine All.i fun X => ?_ | refine AllY.i fun Y => ?_))
  refine AWP.cond rfl (fun hb => ?_) (fun hb => ?_)
  · (repeat (first | refine WK ?_ | refine All.i fun X => ?_ | refine AllY.i fun Y => ?_))
    (refine AWP.ret ?_; (repeat (first | refine inB_r ?_ | refine andThen_r ?_)); refine retQ_r ?_)
    refine Ends.plain rfl rfl (by exact Sub.f) ⟨?_, rfl⟩
    have hb : 16 < l.length := by rw [decide_eq_true_eq, List.length_map] at hb; omega
    rw [show checkErr l = 2 from by simp [checkErr, hb]]
  have hl : l.length ≤ 16 := by rw [decide_eq_false_iff_not, List.length_map] at hb; omega
  have e1 : checkErr l = kindsErr [] l := by simp [checkErr]; omega
  (repeat (first | refine AWP.loopR (fun i : Nat => ⟨[(0, kindsA false false l), (9, kindsA false false l), (10, iA (l.map (kindA false)).length), (11, iA i)], Sf⟩) (fun i => i ≤ l.length ∧ kindsErr [] l = kindsErr (l.take i) (l.drop i)) (fun i => l.length - i) 0 ⟨by omega, rfl⟩ ⟨.cons rfl (.cons rfl (.cons rfl (.cons rfl .nil))), by exact Sub.f⟩ ?_ | refine WK ?_ | refine All.i fun X => ?_ | refine AllY.i fun Y => ?_))
  rintro i ⟨hi, he⟩
  (repeat (first | refine WK ?_ | refine All.i fun X => ?_ | refine AllY.i fun Y => ?_))
  refine AWP.cond rfl (fun hb => ?_) (fun hb => ?_)
  · have h : i < l.length := by simpa using hb
    (repeat (first | (refine AOps.gN ?_; first | refine AOps.p (W.idxL rfl rfl rfl (map_at _ h)) rfl ?_ | refine AOps.p (W.call1 rfl (one_ps _) rfl) rfl ?_) | refine WK ?_ | refine All.i fun X => ?_ | refine AllY.i fun Y => ?_))
    refine AWP.cond rfl (fun hc => ?_) (fun hc => ?_)
    · have hc : oneErr l[i] ≠ 0 := by simpa using hc
      (repeat (first | refine WK ?_ | refine All.i fun X => ?_ | refine AllY.i fun Y => ?_))
      (refine AWP.ret ?_; (repeat (first | refine inB_r ?_ | refine andThen_r ?_)); refine retQ_r ?_)
      refine Ends.plain rfl rfl (by exact Sub.f) ⟨?_, rfl⟩
      rw [e1, he, kindsErr_at h, kindsErr_bad hc]
      rfl
    have hc : oneErr l[i] = 0 := by simpa using hc
    have hf : PS Tryz.prog 73 [.lst false 102 2 ((l.map (kindA false)).take i), sA l[i].name] (iA (findKind (l.take i) l[i].name)) := by
      have := find_ps (l.take i) l[i].name (by simp; omega)
      simpa only [kindsA, List.map_take] using this
    (repeat (first | refine WK ?_ | refine All.i fun X => ?_ | refine AllY.i fun Y => ?_))
    (repeat refine WF ?_); refine AWP.region_run (by kernel_rfl) (by kernel_rfl) ?_; (repeat (first | (refine RGo.gN ?_; first | refine RGo.p (W.hiL rfl rfl rfl (by simp; omega)) rfl ?_ | refine RGo.p (W.call2 rfl rfl hf rfl) rfl ?_) | (refine RGo.gQ ?_; first | refine RGo.p (W.hiL rfl rfl rfl (by simp; omega)) rfl ?_ | refine RGo.p (W.call2 rfl rfl hf rfl) rfl ?_) | refine RK ?_ | refine RGo.nil (by kernel_rfl) ?_))
    (repeat (first | refine WK ?_ | refine All.i fun X => ?_ | refine AllY.i fun Y => ?_))
    refine AWP.cond rfl (fun hd => ?_) (fun hd => ?_)
    · have hd : 0 ≤ findKind (l.take i) l[i].name := by simpa using hd
      (repeat (first | refine WK ?_ | refine All.i fun X => ?_ | refine AllY.i fun Y => ?_))
      (refine AWP.ret ?_; (repeat (first | refine inB_r ?_ | refine andThen_r ?_)); refine retQ_r ?_)
      refine Ends.plain rfl rfl (by exact Sub.f) ⟨?_, rfl⟩
      rw [e1, he, kindsErr_at h, kindsErr_twice hc hd]
    · have hd : findKind (l.take i) l[i].name < 0 := by simpa using hd
      (repeat (first | refine WK ?_ | refine All.i fun X => ?_ | refine AllY.i fun Y => ?_))
      refine ⟨i + 1, ⟨by omega, ?_⟩, by omega, .cons rfl (.cons rfl (.cons rfl (.cons rfl .nil))), by exact Sub.f⟩
      rw [he, kindsErr_at h, kindsErr_next hc hd, List.take_add_one, List.getElem?_eq_getElem h]
      rfl
  · have h : ¬ i < l.length := by simpa using hb
    (repeat (first | refine WK ?_ | refine All.i fun X => ?_ | refine AllY.i fun Y => ?_))
    (refine AWP.ret ?_; (repeat (first | refine inB_r ?_ | refine andThen_r ?_)); refine retQ_r ?_)
    refine Ends.plain rfl rfl (by exact Sub.f) ⟨?_, rfl⟩
    rw [e1, he, kindsErr_end (by omega)]
end Go.Proofs.YtkoehhpfjpdkcaaGreat

namespace Go.Proofs.YtkoehhpfjpdkcaaGreat
set_option linter.unusedSimpArgs false
set_option linter.unusedVariables false
/-- Are the components those of an item, all kinds above 'last'? -/
def heldFrom (ks : List Kind) : Int → List Comp → Bool
  | _, [] => true
  | last, c :: l => match ks[c.kind.toNat]? with
    | some k => decide (last < c.kind) && decide (c.kind < ks.length) && holdsOf k c.vals && heldFrom ks c.kind l
    | none => false
def heldOf (ks : List Kind) (l : List Comp) : Bool := heldFrom ks (-1) l
theorem heldFrom_at {ks : List Kind} {l : List Comp} {i : Nat} {last : Int} {k : Kind} {c : Comp} (h : i < l.length) (hc : l[i] = c) (hk : ks[c.kind.toNat]? = some k) : heldFrom ks last (l.drop i) = (decide (last < c.kind) && decide (c.kind < ks.length) && holdsOf k c.vals && heldFrom ks c.kind (l.drop (i + 1))) := by
  rw [List.drop_eq_getElem_cons h, heldFrom, hc, hk]
theorem heldFrom_no {ks : List Kind} {l : List Comp} {i : Nat} {last : Int} {c : Comp} (h : i < l.length) (hc : l[i] = c) (hn : c.kind ≤ last ∨ (ks.length : Int) ≤ c.kind) : heldFrom ks last (l.drop i) = false := by
  rw [List.drop_eq_getElem_cons h, heldFrom, hc]
  split
  · rcases hn with hn | hn
    · rw [decide_eq_false (by omega)]; rfl
    · rw [decide_eq_false (p := c.kind < _) (by omega)]; simp
  · rfl
/-- Are the items those of a world, all slots above 'last'? -/
def itemsFrom (ks : List Kind) (gens : List Int) : Int → List Item → Bool
  | _, [] => true
  | last, it :: l => match gens[it.ent.n.toNat]? with
    | some g => decide (last < it.ent.n) && decide (it.ent.n < gens.length) && decide (it.ent.gen = g) && !decide (it.ent.gen = 1073741824) && heldOf ks it.comps && itemsFrom ks gens it.ent.n l
    | none => false
theorem itemsFrom_at {ks : List Kind} {gens : List Int} {l : List Item} {i : Nat} {last : Int} {g : Int} {it : Item} (h : i < l.length) (hc : l[i] = it) (hk : gens[it.ent.n.toNat]? = some g) : itemsFrom ks gens last (l.drop i) = (decide (last < it.ent.n) && decide (it.ent.n < gens.length) && decide (it.ent.gen = g) && !decide (it.ent.gen = 1073741824) && heldOf ks it.comps && itemsFrom ks gens it.ent.n (l.drop (i + 1))) := by
  rw [List.drop_eq_getElem_cons h, itemsFrom, hc, hk]
theorem itemsFrom_no {ks : List Kind} {gens : List Int} {l : List Item} {i : Nat} {last : Int} {it : Item} (h : i < l.length) (hc : l[i] = it) (hn : it.ent.n ≤ last ∨ (gens.length : Int) ≤ it.ent.n) : itemsFrom ks gens last (l.drop i) = false := by
  rw [List.drop_eq_getElem_cons h, itemsFrom, hc]
  split
  · rcases hn with hn | hn
    · rw [decide_eq_false (by omega)]; rfl
    · rw [decide_eq_false (p := it.ent.n < _) (by omega)]; simp
  · rfl
def gensOk (l : List Int) : Bool := l.all fun g => decide (0 ≤ g) && decide (g ≤ 1073741824)
/-- What world.Check returns. -/
def wdErr (w : Wd) : Int :=
  if checkErr w.kinds ≠ 0 then checkErr w.kinds
  else if 256 < w.gens.length ∨ w.gens.length < w.items.length then 2
  else if gensOk w.gens = false then 3
  else if itemsFrom w.kinds w.gens (-1) w.items = false then 3 else 0
end Go.Proofs.YtkoehhpfjpdkcaaGreat

namespace Go.Proofs.YtkoehhpfjpdkcaaGreat
set_option linter.unusedVariables false
theorem held_ps (ks : List Kind) (l : List Comp) (hl : l.length ≤ 1099511627776) : PS Tryz.prog 42 [kindsA false false ks, compsA false false l] (bA (heldOf ks l)) := by
  refine Spec.of (nt := 39) (res := [.tmp 4]) Tryz.func42 rfl (by kernel_rfl) rfl rfl rfl fun Sf => ?_
  have hlm : (l.map (compA false)).length = l.length := List.length_map _
  (repeat (first | refine WK ?_ | refine All.i fun X => ?_ | refine AllY.i fun Y => ?_))
  refine AWP.lp2 (fun (i : Nat) (last : Int) => ⟨[(0, kindsA false false ks), (5, iA last), (8, compsA false false l), (9, iA (l.map (compA false)).length), (10, iA i)], Sf⟩) (fun i last => i ≤ l.length ∧ -1 ≤ last ∧ heldFrom ks last (l.drop i) = heldOf ks l) (fun i _ => l.length - i) 0 (-1) ⟨Nat.zero_le _, by omega, rfl⟩ ?_
  rintro i last ⟨hi, hla, he⟩
  (repeat (first | refine WK ?_ | refine All.i fun X => ?_ | refine AllY.i fun Y => ?_))
  refine AWP.cond rfl (fun hc => ?_) (fun hc => ?_)
  · have h : i < l.length := by rw [decide_eq_true_eq, hlm] at hc; omega
    obtain ⟨⟨ck, cv⟩, hcc⟩ : ∃ c, l[i] = c := ⟨_, rfl⟩
    have hat : (l.map (compA false))[i]? = some (compA false ⟨ck, cv⟩) := by rw [List.getElem?_map, List.getElem?_eq_getElem h, hcc]; rfl
    (repeat (first | refine WK ?_ | refine All.i fun X => ?_ | refine AllY.i fun Y => ?_))
    rcases Bool.eq_false_or_eq_true (decide (ck ≤ last)) with g1 | g1
    · (repeat refine WF ?_); refine AWP.region_run (by kernel_rfl) (by kernel_rfl) ?_; (repeat (first | (refine RGo.gQ ?_; first | refine RGo.goNU ?_ | refine RGo.goNV ?_) | refine RK ?_ | refine RGo.nil (by kernel_rfl) ?_))
      refine AWP.cond_t rfl (by first | rfl | assumption) ?_
      (repeat (first | refine WK ?_ | refine All.i fun X => ?_ | refine AllY.i fun Y => ?_))
      (refine AWP.ret ?_; (repeat (first | refine inB_r ?_ | refine andThen_r ?_)); refine retQ_r ?_); refine Ends.ps ?_
      rw [← he, heldFrom_no h hcc (.inl (by simpa using g1))]
    · obtain ⟨n, rfl⟩ : ∃ n : Nat, ck = n := ⟨ck.toNat, by rw [decide_eq_false_iff_not] at g1; omega⟩
      rcases Bool.eq_false_or_eq_true (decide (((ks.map (kindA false)).length : Int) ≤ n)) with g2 | g2
      · (repeat refine WF ?_); refine AWP.region_run (by kernel_rfl) (by kernel_rfl) ?_; (repeat (first | (refine RGo.gQ ?_; first | refine RGo.goNU ?_ | refine RGo.goNV ?_) | refine RK ?_ | refine RGo.nil (by kernel_rfl) ?_))
        refine AWP.cond_t rfl (by first | rfl | assumption) ?_
        (repeat (first | refine WK ?_ | refine All.i fun X => ?_ | refine AllY.i fun Y => ?_))
        (refine AWP.ret ?_; (repeat (first | refine inB_r ?_ | refine andThen_r ?_)); refine retQ_r ?_); refine Ends.ps ?_
        rw [← he, heldFrom_no h hcc (.inr (by rw [decide_eq_true_eq, List.length_map] at g2; exact g2))]
      · have hkl : n < ks.length := by rw [decide_eq_false_iff_not, List.length_map] at g2; omega
        obtain ⟨k, hk⟩ : ∃ k, ks[n] = k := ⟨_, rfl⟩
        have hka : ks[n]? = some k := by rw [List.getElem?_eq_getElem hkl, hk]
        have hat2 : (ks.map (kindA false))[n]? = some (kindA false k) := by rw [List.getElem?_map, hka]; rfl
        have hst := heldFrom_at (last := last) (k := k) h hcc hka
        dsimp only at hst
        rw [decide_eq_true (by rw [decide_eq_false_iff_not] at g1; omega), decide_eq_true (p := (n : Int) < _) (by omega), Bool.true_and, Bool.true_and, he] at hst
        have hh := holds_ps k cv
        obtain ⟨b, hb⟩ : ∃ b, holdsOf k cv = b := ⟨_, rfl⟩
        rw [hb] at hst hh
        cases b
        · (repeat refine WF ?_); refine AWP.region_run (by kernel_rfl) (by kernel_rfl) ?_; (repeat (first | (refine RGo.gN ?_; first | (refine RGo.g_callf ?_; first | refine RGo.c2 (h := (hh ..)) (k := ?_))) | (refine RGo.gQ ?_; first | (refine RGo.g_callf ?_; first | refine RGo.c2 (h := (hh ..)) (k := ?_))) | refine RK ?_ | refine RGo.nil (by kernel_rfl) ?_))
          refine AWP.cond_t rfl (by first | rfl | assumption) ?_
          (repeat (first | refine WK ?_ | refine All.i fun X => ?_ | refine AllY.i fun Y => ?_))
          (refine AWP.ret ?_; (repeat (first | refine inB_r ?_ | refine andThen_r ?_)); refine retQ_r ?_); refine Ends.ps ?_
          rw [hst]; rfl
        · (repeat refine WF ?_); refine AWP.region_run (by kernel_rfl) (by kernel_rfl) ?_; (repeat (first | (refine RGo.gN ?_; first | (refine RGo.g_callf ?_; first | refine RGo.c2 (h := (hh ..)) (k := ?_))) | (refine RGo.gQ ?_; first | (refine RGo.g_callf ?_; first | refine RGo.c2 (h := (hh ..)) (k := ?_))) | refine RK ?_ | refine RGo.nil (by kernel_rfl) ?_))
          refine AWP.cond_f rfl (by first | rfl | assumption) ?_
          (repeat (first | refine WK ?_ | refine All.i fun X => ?_ | refine AllY.i fun Y => ?_))
          refine lp_next2 (i + 1) n ⟨h, by omega, hst.symm⟩
  · have h : i = l.length := by rw [decide_eq_false_iff_not, hlm] at hc; omega
    subst h
    (repeat (first | refine WK ?_ | refine All.i fun X => ?_ | refine AllY.i fun Y => ?_))
    (refine AWP.ret ?_; (repeat (first | refine inB_r ?_ | refine andThen_r ?_)); refine retQ_r ?_); refine Ends.ps ?_
    rw [← he, List.drop_length]; rfl
set_option maxHeartbeats 2000000 in
theorem check_ps' (w : Wd) (hg : w.gens.length ≤ 1099511627776) (hi : w.items.length ≤ 1099511627776) (hc : ∀ it ∈ w.items, it.comps.length ≤ 1099511627776) : PS Tryz.prog 22 [wdA false w] (iA (wdErr w)) := by
  have hck := check_ps w.kinds
  obtain ⟨ke, hke⟩ : ∃ ke, checkErr w.kinds = ke := ⟨_, rfl⟩
  obtain ⟨we, hwe⟩ : ∃ we, wdErr w = we := ⟨_, rfl⟩
  rw [hwe]
  unfold wdErr at hwe
  rw [hke] at hck hwe
  obtain ⟨ks, gens, items⟩ := w
  dsimp only at hwe hg hi hc hck hke
  refine Spec.of (nt := 94) (res := [.tmp 2]) Tryz.func22 rfl (by kernel_rfl) rfl rfl rfl fun Sf => ?_
  have hgm : (gens.map iA).length = gens.length := List.length_map _
  have him : (items.map (itemA false)).length = items.length := List.length_map _
  (repeat refine WF ?_); refine AWP.region ?_; (repeat (first | (refine AOps.gN ?_; first | (refine AOps.g_box ?_; refine AOps.goB ?_)) | refine WO ?_ | refine All.i fun X => ?_ | refine AllY.i fun Y => ?_)); refine AOps.nil ?_; (repeat refine WN ?_)
  (repeat refine WF ?_); refine AWP.region ?_; (repeat (first | (refine AOps.gN ?_; first | (refine AOps.g_callf ?_; first | refine AOps.c1 (h := (hck ..)) (k := ?_))) | refine WO ?_ | refine All.i fun X => ?_ | refine AllY.i fun Y => ?_)); refine AOps.nil ?_; (repeat refine WN ?_)
  (repeat (first | refine WK ?_ | refine All.i fun X => ?_ | refine AllY.i fun Y => ?_))
  refine AWP.cond rfl (fun hd => ?_) (fun hd => ?_)
  · have hd : ke ≠ 0 := by simpa using hd
    (repeat (first | refine WK ?_ | refine All.i fun X => ?_ | refine AllY.i fun Y => ?_))
    (refine AWP.ret ?_; (repeat (first | refine inB_r ?_ | refine andThen_r ?_)); refine retQ_r ?_); refine Ends.ps ?_
    rw [← hwe, if_pos hd]
  have hd : ke = 0 := by simpa using hd
  rw [if_neg (by simp [hd])] at hwe
  rcases Bool.eq_false_or_eq_true (decide (256 < ((gens.map iA).length : Int))) with g1 | g1
  · (repeat (first | refine WK ?_ | refine All.i fun X => ?_ | refine AllY.i fun Y => ?_))
    refine AWP.cond_t rfl (by first | rfl | assumption) ?_
    (repeat (first | refine WK ?_ | refine All.i fun X => ?_ | refine AllY.i fun Y => ?_))
    (refine AWP.ret ?_; (repeat (first | refine inB_r ?_ | refine andThen_r ?_)); refine retQ_r ?_); refine Ends.ps ?_
    rw [← hwe, if_pos (.inl (by rw [decide_eq_true_eq, hgm] at g1; omega))]
  rcases Bool.eq_false_or_eq_true (decide (((gens.map iA).length : Int) < (items.map (itemA false)).length)) with g2 | g2
  · (repeat (first | refine WK ?_ | refine All.i fun X => ?_ | refine AllY.i fun Y => ?_))
    refine AWP.cond_t rfl (by first | rfl | assumption) ?_
    (repeat (first | refine WK ?_ | refine All.i fun X => ?_ | refine AllY.i fun Y => ?_))
    (refine AWP.ret ?_; (repeat (first | refine inB_r ?_ | refine andThen_r ?_)); refine retQ_r ?_); refine Ends.ps ?_
    rw [← hwe, if_pos (.inr (by rw [decide_eq_true_eq, hgm, him] at g2; omega))]
  (repeat (first | refine WK ?_ | refine All.i fun X => ?_ | refine AllY.i fun Y => ?_))
  refine AWP.cond_f rfl (by first | rfl | assumption) ?_
  rw [if_neg (by rw [decide_eq_false_iff_not, hgm] at g1; rw [decide_eq_false_iff_not, hgm, him] at g2; omega)] at hwe
  (repeat (first | refine WK ?_ | refine All.i fun X => ?_ | refine AllY.i fun Y => ?_))
  refine AWP.lp (fun i : Nat => ⟨[(1, .fp (wdA false ⟨ks, gens, items⟩).cells), (29, intsA false gens), (30, iA (gens.map iA).length), (31, iA i)], Sf⟩) (fun i => i ≤ gens.length ∧ ∀ j (h : j < gens.length), j < i → 0 ≤ gens[j] ∧ gens[j] ≤ 1073741824) (fun i => gens.length - i) 0 ⟨Nat.zero_le _, fun j h hj => absurd hj (by omega)⟩ ?_
  rintro i ⟨hil, hgo⟩
  (repeat (first | refine WK ?_ | refine All.i fun X => ?_ | refine AllY.i fun Y => ?_))
  refine AWP.cond rfl (fun he => ?_) (fun he => ?_)
  · have h : i < gens.length := by rw [decide_eq_true_eq, hgm] at he; omega
    obtain ⟨x, hx⟩ : ∃ x, gens[i] = x := ⟨_, rfl⟩
    have hat : (gens.map iA)[i]? = some (iA x) := by rw [List.getElem?_map, List.getElem?_eq_getElem h, hx]; rfl
    have hbad : ¬ (0 ≤ x ∧ x ≤ 1073741824) → gensOk gens = false := fun hn => by
      unfold gensOk
      rw [List.all_eq_false]
      refine ⟨x, hx ▸ List.getElem_mem h, ?_⟩
      simp only [Bool.and_eq_true, decide_eq_true_eq]
      exact hn
    (repeat (first | refine WK ?_ | refine All.i fun X => ?_ | refine AllY.i fun Y => ?_))
    refine AWP.cond rfl (fun hf => ?_) (fun hf => ?_)
    · have hf : ¬ (0 ≤ x ∧ x ≤ 1073741824) := by simp at hf; omega
      (repeat (first | refine WK ?_ | refine All.i fun X => ?_ | refine AllY.i fun Y => ?_))
      (refine AWP.ret ?_; (repeat (first | refine inB_r ?_ | refine andThen_r ?_)); refine retQ_r ?_); refine Ends.ps ?_
      rw [← hwe, if_pos (hbad hf)]
    · have hf : 0 ≤ x ∧ x ≤ 1073741824 := by simp at hf; omega
      (repeat (first | refine WK ?_ | refine All.i fun X => ?_ | refine AllY.i fun Y => ?_))
      refine lp_next (i + 1) ⟨h, fun j h1 h2 => ?_⟩
      by_cases e : j = i
      · subst e; rw [hx]; exact hf
      · exact hgo j h1 (by omega)
  have hgok : gensOk gens = true := by
    have h : i = gens.length := by rw [decide_eq_false_iff_not, hgm] at he; omega
    unfold gensOk
    rw [List.all_eq_true]
    intro x hx
    obtain ⟨j, hj, rfl⟩ := List.getElem_of_mem hx
    simp only [Bool.and_eq_true, decide_eq_true_eq]
    exact hgo j hj (by omega)
  rw [if_neg (by simp [hgok])] at hwe
  (repeat (first | refine WK ?_ | refine All.i fun X => ?_ | refine AllY.i fun Y => ?_))
  refine AWP.lp2 (fun (i : Nat) (last : Int) => ⟨[(1, .fp (wdA false ⟨ks, gens, items⟩).cells), (6, iA last), (43, itemsA false false items), (44, iA (items.map (itemA false)).length), (45, iA i)], Sf⟩) (fun i last => i ≤ items.length ∧ -1 ≤ last ∧ itemsFrom ks gens last (items.drop i) = itemsFrom ks gens (-1) items) (fun i _ => items.length - i) 0 (-1) ⟨Nat.zero_le _, by omega, rfl⟩ ?_
  clear hil hgo he i
  rintro i last ⟨hil, hla, he⟩
  (repeat (first | refine WK ?_ | refine All.i fun X => ?_ | refine AllY.i fun Y => ?_))
  refine AWP.cond rfl (fun hd' => ?_) (fun hd' => ?_)
  · have h : i < items.length := by rw [decide_eq_true_eq, him] at hd'; omega
    obtain ⟨⟨⟨en, eg⟩, cs⟩, hit⟩ : ∃ it, items[i] = it := ⟨_, rfl⟩
    have hat : (items.map (itemA false))[i]? = some (itemA false ⟨⟨en, eg⟩, cs⟩) := by rw [List.getElem?_map, List.getElem?_eq_getElem h, hit]; rfl
    have hcl := hc _ (hit ▸ List.getElem_mem h)
    dsimp only at hcl
    (repeat (first | refine WK ?_ | refine All.i fun X => ?_ | refine AllY.i fun Y => ?_))
    rcases Bool.eq_false_or_eq_true (decide (en ≤ last)) with q1 | q1
    · (repeat refine WF ?_); refine AWP.region_run (by kernel_rfl) (by kernel_rfl) ?_; (repeat (first | (refine RGo.gQ ?_; first | refine RGo.goNU ?_ | refine RGo.goNV ?_) | refine RK ?_ | refine RGo.nil (by kernel_rfl) ?_))
      refine AWP.cond_t rfl (by first | rfl | assumption) ?_
      (repeat (first | refine WK ?_ | refine All.i fun X => ?_ | refine AllY.i fun Y => ?_))
      (refine AWP.ret ?_; (repeat (first | refine inB_r ?_ | refine andThen_r ?_)); refine retQ_r ?_); refine Ends.ps ?_
      rw [← hwe, if_pos (by rw [← he, itemsFrom_no h hit (.inl (by simpa using q1))])]
    obtain ⟨n, rfl⟩ : ∃ n : Nat, en = n := ⟨en.toNat, by rw [decide_eq_false_iff_not] at q1; omega⟩
    rcases Bool.eq_false_or_eq_true (decide (((gens.map iA).length : Int) ≤ n)) with q2 | q2
    · (repeat refine WF ?_); refine AWP.region_run (by kernel_rfl) (by kernel_rfl) ?_; (repeat (first | (refine RGo.gQ ?_; first | refine RGo.goNU ?_ | refine RGo.goNV ?_) | refine RK ?_ | refine RGo.nil (by kernel_rfl) ?_))
      refine AWP.cond_t rfl (by first | rfl | assumption) ?_
      (repeat (first | refine WK ?_ | refine All.i fun X => ?_ | refine AllY.i fun Y => ?_))
      (refine AWP.ret ?_; (repeat (first | refine inB_r ?_ | refine andThen_r ?_)); refine retQ_r ?_); refine Ends.ps ?_
      rw [← hwe, if_pos (by rw [← he, itemsFrom_no h hit (.inr (by rw [decide_eq_true_eq, hgm] at q2; exact q2))])]
    have hkl : n < gens.length := by rw [decide_eq_false_iff_not, hgm] at q2; omega
    obtain ⟨g, hg'⟩ : ∃ g, gens[n] = g := ⟨_, rfl⟩
    have hga : gens[n]? = some g := by rw [List.getElem?_eq_getElem hkl, hg']
    have hat2 : (gens.map iA)[n]? = some (iA g) := by rw [List.getElem?_map, hga]; rfl
    have hst := itemsFrom_at (ks := ks) (last := last) (g := g) h hit hga
    dsimp only at hst
    rw [decide_eq_true (by rw [decide_eq_false_iff_not] at q1; omega), decide_eq_true (p := (n : Int) < _) (by omega), Bool.true_and, Bool.true_and, he] at hst
    rcases Bool.eq_false_or_eq_true (decide (eg ≠ g)) with q3 | q3
    · (repeat refine WF ?_); refine AWP.region_run (by kernel_rfl) (by kernel_rfl) ?_; (repeat (first | (refine RGo.gQ ?_; first | refine RGo.goNU ?_ | refine RGo.goNV ?_) | refine RK ?_ | refine RGo.nil (by kernel_rfl) ?_))
      refine AWP.cond_t rfl (by first | rfl | assumption) ?_
      (repeat (first | refine WK ?_ | refine All.i fun X => ?_ | refine AllY.i fun Y => ?_))
      (refine AWP.ret ?_; (repeat (first | refine inB_r ?_ | refine andThen_r ?_)); refine retQ_r ?_); refine Ends.ps ?_
      rw [← hwe, if_pos (by rw [hst, decide_eq_false (by simpa using q3)]; rfl)]
    rcases Bool.eq_false_or_eq_true (decide (eg = 1073741824)) with q4 | q4
    · (repeat refine WF ?_); refine AWP.region_run (by kernel_rfl) (by kernel_rfl) ?_; (repeat (first | (refine RGo.gQ ?_; first | refine RGo.goNU ?_ | refine RGo.goNV ?_) | refine RK ?_ | refine RGo.nil (by kernel_rfl) ?_))
      refine AWP.cond_t rfl (by first | rfl | assumption) ?_
      (repeat (first | refine WK ?_ | refine All.i fun X => ?_ | refine AllY.i fun Y => ?_))
      (refine AWP.ret ?_; (repeat (first | refine inB_r ?_ | refine andThen_r ?_)); refine retQ_r ?_); refine Ends.ps ?_
      rw [← hwe, if_pos (by rw [hst, q4]; simp)]
    have hh := held_ps ks cs hcl
    obtain ⟨b, hb⟩ : ∃ b, heldOf ks cs = b := ⟨_, rfl⟩
    rw [decide_eq_true (p := eg = g) (by simpa using q3), q4, hb, Bool.true_and, Bool.not_false, Bool.true_and] at hst
    rw [hb] at hh
    cases b
    · (repeat refine WF ?_); refine AWP.region_run (by kernel_rfl) (by kernel_rfl) ?_; (repeat (first | (refine RGo.gN ?_; first | (refine RGo.g_callf ?_; first | refine RGo.c2 (h := (hh ..)) (k := ?_))) | (refine RGo.gQ ?_; first | (refine RGo.g_callf ?_; first | refine RGo.c2 (h := (hh ..)) (k := ?_))) | refine RK ?_ | refine RGo.nil (by kernel_rfl) ?_))
      refine AWP.cond_t rfl (by first | rfl | assumption) ?_
      (repeat (first | refine WK ?_ | refine All.i fun X => ?_ | refine AllY.i fun Y => ?_))
      (refine AWP.ret ?_; (repeat (first | refine inB_r ?_ | refine andThen_r ?_)); refine retQ_r ?_); refine Ends.ps ?_
      rw [← hwe, if_pos (by rw [hst]; rfl)]
    · (repeat refine WF ?_); refine AWP.region_run (by kernel_rfl) (by kernel_rfl) ?_; (repeat (first | (refine RGo.gN ?_; first | (refine RGo.g_callf ?_; first | refine RGo.c2 (h := (hh ..)) (k := ?_))) | (refine RGo.gQ ?_; first | (refine RGo.g_callf ?_; first | refine RGo.c2 (h := (hh ..)) (k := ?_))) | refine RK ?_ | refine RGo.nil (by kernel_rfl) ?_))
      refine AWP.cond_f rfl (by first | rfl | assumption) ?_
      (repeat (first | refine WK ?_ | refine All.i fun X => ?_ | refine AllY.i fun Y => ?_))
      refine lp_next2 (i + 1) n ⟨h, by omega, hst.symm⟩
  · have h : i = items.length := by rw [decide_eq_false_iff_not, him] at hd'; omega
    (repeat (first | refine WK ?_ | refine All.i fun X => ?_ | refine AllY.i fun Y => ?_))
    (refine AWP.ret ?_; (repeat (first | refine inB_r ?_ | refine andThen_r ?_)); refine retQ_r ?_); refine Ends.ps ?_
    rw [← hwe, if_neg (by rw [← he, h, List.drop_length]; simp [itemsFrom])]
end Go.Proofs.YtkoehhpfjpdkcaaGreat

namespace Go.Proofs.YtkoehhpfjpdkcaaGreat
set_option linter.unusedVariables false
theorem isNaN_ps (a : Int) : PS Tryz.prog 96 [iA a] (bA false) := by
  refine Spec.of (nt := 6) (res := [.tmp 2]) Tryz.func96 rfl (by kernel_rfl) rfl rfl rfl fun Sf => ?_
  (repeat (first | refine WK ?_ | refine All.i fun X => ?_ | refine AllY.i fun Y => ?_))
  (refine AWP.ret ?_; (repeat (first | refine inB_r ?_ | refine andThen_r ?_)); refine retQ_r ?_); refine Ends.ps ?_
  have : decide (a ≠ a) = false := decide_eq_false (by simp)
  rw [this]
def cmpI (a b : Int) : Int := if a < b then -1 else if b < a then 1 else 0
theorem compare_ps (a b : Int) : PS Tryz.prog 83 [iA a, iA b] (iA (cmpI a b)) := by
  refine Spec.of (nt := 20) (res := [.tmp 4]) Tryz.func83 rfl (by kernel_rfl) rfl rfl rfl fun Sf => ?_
  (repeat (first | (refine AOps.gN ?_; first | (refine AOps.g_callf ?_; first | refine AOps.c1 (h := (isNaN_ps a)) (k := ?_) | refine AOps.c1 (h := (isNaN_ps b)) (k := ?_))) | refine WK ?_ | refine All.i fun X => ?_ | refine AllY.i fun Y => ?_))
  refine AWP.cond_f rfl rfl ?_
  (repeat (first | refine WK ?_ | refine All.i fun X => ?_ | refine AllY.i fun Y => ?_))
  refine AWP.cond_f rfl rfl ?_
  (repeat (first | refine WK ?_ | refine All.i fun X => ?_ | refine AllY.i fun Y => ?_))
  refine AWP.cond rfl (fun h => ?_) (fun h => ?_)
  · have h : a < b := by simpa using h
    (repeat (first | refine WK ?_ | refine All.i fun X => ?_ | refine AllY.i fun Y => ?_))
    (refine AWP.ret ?_; (repeat (first | refine inB_r ?_ | refine andThen_r ?_)); refine retQ_r ?_); refine Ends.ps ?_
    rw [cmpI, if_pos h]
  · have h : ¬ a < b := by simpa using h
    (repeat (first | refine WK ?_ | refine All.i fun X => ?_ | refine AllY.i fun Y => ?_))
    refine AWP.cond rfl (fun h2 => ?_) (fun h2 => ?_)
    · have h2 : b < a := by simpa using h2
      (repeat (first | refine WK ?_ | refine All.i fun X => ?_ | refine AllY.i fun Y => ?_))
      (refine AWP.ret ?_; (repeat (first | refine inB_r ?_ | refine andThen_r ?_)); refine retQ_r ?_); refine Ends.ps ?_
      rw [cmpI, if_neg h, if_pos h2]
    · have h2 : ¬ b < a := by simpa using h2
      (repeat (first | refine WK ?_ | refine All.i fun X => ?_ | refine AllY.i fun Y => ?_))
      (refine AWP.ret ?_; (repeat (first | refine inB_r ?_ | refine andThen_r ?_)); refine retQ_r ?_); refine Ends.ps ?_
      rw [cmpI, if_neg h, if_neg h2]
end Go.Proofs.YtkoehhpfjpdkcaaGreat

namespace Go.Proofs.YtkoehhpfjpdkcaaGreat
set_option linter.unusedVariables false
def idxF {α : Type} (l : List α) (p : α → Bool) : Int := match l.findIdx? p with
  | some i => i
  | none => -1
theorem idxF_none {α : Type} {l : List α} {p : α → Bool} (h : ∀ j (hj : j < l.length), p l[j] = false) : idxF l p = -1 := by
  have : l.findIdx? p = none := by
    rw [List.findIdx?_eq_none_iff]
    intro x hx
    obtain ⟨j, hj, rfl⟩ := List.getElem_of_mem hx
    exact h j hj
  simp [idxF, this]
theorem idxF_some {α : Type} {l : List α} {p : α → Bool} {i : Nat} (hi : i < l.length) (e : p l[i] = true) (h : ∀ j (hj : j < i), p (l[j]'(by omega)) = false) : idxF l p = i := by
  have : l.findIdx? p = some i := by
    rw [List.findIdx?_eq_some_iff_getElem]
    exact ⟨hi, e, fun j hj => by simpa using h j hj⟩
  simp [idxF, this]
theorem idxF_any {α : Type} (l : List α) (p : α → Bool) : decide ((0 : Int) ≤ idxF l p) = l.any p := by
  unfold idxF
  cases h : l.findIdx? p with
  | none =>
    rw [List.findIdx?_eq_none_iff] at h
    have : l.any p = false := List.any_eq_false.2 fun x hx => by rw [h x hx]; simp
    rw [this]
    rfl
  | some i =>
    obtain ⟨hi, e, _⟩ := List.findIdx?_eq_some_iff_getElem.1 h
    have : l.any p = true := List.any_eq_true.2 ⟨_, List.getElem_mem hi, e⟩
    rw [this]
    simp
theorem idxF_range {α : Type} (l : List α) (p : α → Bool) : -1 ≤ idxF l p ∧ idxF l p < l.length ∧ idxF l p ≤ l.length := by
  unfold idxF
  cases h : l.findIdx? p with
  | none => simp; omega
  | some i =>
    obtain ⟨hi, _⟩ := List.findIdx?_eq_some_iff_getElem.1 h
    simp; omega
end Go.Proofs.YtkoehhpfjpdkcaaGreat

namespace Go.Proofs.YtkoehhpfjpdkcaaGreat
set_option linter.unusedVariables false
theorem indexFuncT_ps (l : List Item) (f : FuncId) (cap : List AV) (p : Item → Bool) (hs : st1s cap = true) (hl : l.length ≤ 4611686018427387904) (hf : ∀ x ∈ l, PS Tryz.prog f ((itemA false) x :: cap) (bA (p x))) : PS Tryz.prog 34 [.lst false 48 3 (l.map (itemA false)), .fn f cap] (iA (idxF l p)) := by
  refine Spec.of (nt := 19) (res := [.tmp 4]) Tryz.func34 rfl (by kernel_rfl) rfl rfl rfl fun Sf => ?_
  (repeat (first | refine WK ?_ | refine All.i fun X => ?_ | refine AllY.i fun Y => ?_))
  refine AWP.lp (fun i : Nat => ⟨[(0, .lst false 48 3 (l.map (itemA false))), (1, .fn f cap), (7, iA (l.map (itemA false)).length), (8, iA i)], Sf⟩) (fun i => i ≤ l.length ∧ ∀ j (h : j < l.length), j < i → p l[j] = false) (fun i => l.length - i) 0 ⟨Nat.zero_le _, fun j h hj => absurd hj (by omega)⟩ ?_
  rintro i ⟨hi, he⟩
  (repeat (first | refine WK ?_ | refine All.i fun X => ?_ | refine AllY.i fun Y => ?_))
  refine AWP.cond rfl (fun hc => ?_) (fun hc => ?_)
  · have h : i < l.length := by simpa using hc
    (repeat (first | (refine AOps.gN ?_; first | (refine AOps.g_callv ?_; first | refine AOps.k1 (h := (hf _ (List.getElem_mem h))) (k := ?_))) | refine WK ?_ | refine All.i fun X => ?_ | refine AllY.i fun Y => ?_))
    refine AWP.cond rfl (fun hd => ?_) (fun hd => ?_)
    · (repeat (first | refine WK ?_ | refine All.i fun X => ?_ | refine AllY.i fun Y => ?_))
      (refine AWP.ret ?_; (repeat (first | refine inB_r ?_ | refine andThen_r ?_)); refine retQ_r ?_); refine Ends.ps ?_
      rw [idxF_some h hd fun j hj => he j (by omega) hj]
    · (repeat (first | refine WK ?_ | refine All.i fun X => ?_ | refine AllY.i fun Y => ?_))
      refine lp_next (i + 1) ⟨h, fun j h1 h2 => ?_⟩
      by_cases e : j = i
      · subst e; exact hd
      · exact he j h1 (by omega)
  · have h : ¬ i < l.length := by simpa using hc
    (repeat (first | refine WK ?_ | refine All.i fun X => ?_ | refine AllY.i fun Y => ?_))
    (refine AWP.ret ?_; (repeat (first | refine inB_r ?_ | refine andThen_r ?_)); refine retQ_r ?_); refine Ends.ps ?_
    rw [idxF_none fun j hj => he j hj (by omega)]
end Go.Proofs.YtkoehhpfjpdkcaaGreat

namespace Go.Proofs.YtkoehhpfjpdkcaaGreat
set_option linter.unusedVariables false
end Go.Proofs.YtkoehhpfjpdkcaaGreat

namespace Go.Proofs.YtkoehhpfjpdkcaaGreat
set_option linter.unusedVariables false
theorem find1_ps (x : Item) (e : Ent) : PS Tryz.prog 35 [itemA false x, .fp (entA e).cells] (bA (decide (x.ent = e))) := by
  have hE := entEql x.ent.n x.ent.gen e.n e.gen
  rw [show (decide (x.ent.n = e.n) && decide (x.ent.gen = e.gen)) = sameE x.ent e from rfl, sameE_dec] at hE
  refine Spec.of (nt := 8) (res := [.tmp 3]) Tryz.func35 rfl (by kernel_rfl) rfl rfl rfl fun Sf => ?_
  (repeat (first | (refine AOps.gN ?_; first | (refine AOps.g_box ?_; refine AOps.goB ?_) | refine AOps.p (W.eqP _ _ (by kernel_rfl) hE rfl rfl) rfl ?_) | refine WK ?_ | refine All.i fun X => ?_ | refine AllY.i fun Y => ?_))
  (refine AWP.ret ?_; (repeat (first | refine inB_r ?_ | refine andThen_r ?_)); refine retQ_r ?_); refine Ends.ps ?_
  rfl
/-- The index of an entity's item. -/
def findE (l : List Item) (e : Ent) : Int := idxF l fun x => decide (x.ent = e)
theorem find_ps' (w : Wd) (e : Ent) (hl : w.items.length ≤ 4611686018427387904) : PS Tryz.prog 13 [wdA false w, entA e] (iA (findE w.items e)) := by
  have h := indexFuncT_ps w.items 35 [.fp (entA e).cells] (fun x => decide (x.ent = e)) rfl hl (fun x _ => find1_ps x e)
  refine Spec.of (nt := 9) (res := [.tmp 4]) Tryz.func13 rfl (by kernel_rfl) rfl rfl rfl fun Sf => ?_
  (repeat refine WF ?_); refine AWP.region ?_; (repeat (first | (refine AOps.gN ?_; first | (refine AOps.g_box ?_; refine AOps.goB ?_)) | refine WO ?_ | refine All.i fun X => ?_ | refine AllY.i fun Y => ?_)); refine AOps.nil ?_; (repeat refine WN ?_)
  (repeat (first | (refine AOps.gN ?_; first | (refine AOps.g_callf ?_; first | refine AOps.c2 (h := (h ..)) (k := ?_))) | refine WK ?_ | refine All.i fun X => ?_ | refine AllY.i fun Y => ?_))
  (refine AWP.ret ?_; (repeat (first | refine inB_r ?_ | refine andThen_r ?_)); refine retQ_r ?_); refine Ends.ps ?_
  rfl
end Go.Proofs.YtkoehhpfjpdkcaaGreat

namespace Go.Proofs.YtkoehhpfjpdkcaaGreat
set_option linter.unusedVariables false
theorem cloneI_ps (l : List Int) (hl : l.length * 8 ≤ 140737488355328) : PS Tryz.prog 53 [.lst false 3 1 (l.map iA)] (.lst true 3 1 (l.map iA)) := by
  refine Spec.of (nt := 8) (res := [.tmp 2]) Tryz.func53 rfl (by kernel_rfl) rfl rfl rfl fun Sf => ?_
  (repeat (first | (refine AOps.gN ?_; first | refine AOps.isNil fun b hb => ?_) | refine WK ?_ | refine All.i fun X => ?_ | refine AllY.i fun Y => ?_))
  refine AWP.cond rfl (fun hc => ?_) (fun hc => ?_)
  · rw [hb hc]
    (repeat (first | refine WK ?_ | refine All.i fun X => ?_ | refine AllY.i fun Y => ?_))
    (refine AWP.ret ?_; (repeat (first | refine inB_r ?_ | refine andThen_r ?_)); refine retQ_r ?_)
    exact ⟨[.prim (.slice none 0 0)], [.lst true 3 1 []], _, [], .cons (.tmp rfl) rfl .nil, .cons (.cell .nil) .nil, by exact Sub.f, rfl, rfl⟩
  · have hl' : (0 + (l.map iA).length) * 8 ≤ 140737488355328 := by simpa using hl
    clear hl
    (repeat (first | (refine AOps.gN ?_; first | (refine AOps.g_lit ?_; refine AOps.goL0 fun K => ?_)) | refine WK ?_ | refine All.i fun X => ?_ | refine AllY.i fun Y => ?_))
    (refine AWP.ret ?_; (repeat (first | refine inB_r ?_ | refine andThen_r ?_)); refine retQ_r ?_)
    exact ⟨[.sl Y 0 (0 + (l.map iA).length)], [.lst true 3 1 (l.map iA)], _, [], .cons (.tmp rfl) rfl .nil, .cons (.cell (.sl (p := 0) .here (by simp))) .nil, by exact Sub.f, rfl, rfl⟩
end Go.Proofs.YtkoehhpfjpdkcaaGreat

namespace Go.Proofs.YtkoehhpfjpdkcaaGreat
set_option linter.unusedVariables false
/-- Components in increasing order of their kinds. -/
def SortC (l : List Comp) : Prop := l.Pairwise fun a b => a.kind < b.kind
/-- The component of a kind. -/
def compOf (l : List Comp) (k : Int) : Option Comp := l.find? fun c => decide (c.kind = k)
end Go.Proofs.YtkoehhpfjpdkcaaGreat

namespace Go.Proofs.YtkoehhpfjpdkcaaGreat
set_option linter.unusedVariables false
/-- Components in increasing order of their kinds. -/
def kSort (l : List Comp) : List Comp := l.mergeSort fun a b => decide (a.kind ≤ b.kind)
/-- The fitted components behind those of pre, out so far. -/
def fitGo (ks : List Kind) : List Comp → List Comp → List Comp → List Comp × Int
  | _, out, [] => (out, 0)
  | pre, out, c :: l =>
    if c.kind < 0 ∨ (ks.length : Int) ≤ c.kind then ([], 1) else if pre.any (fun o => decide (o.kind = c.kind)) then ([], 5) else
    match ks[c.kind.toNat]? with
    | none => ([], 1)
    | some k => if (fitOf k c.vals).2 ≠ 0 then ([], (fitOf k c.vals).2) else fitGo ks (pre ++ [c]) (out ++ [⟨c.kind, (fitOf k c.vals).1⟩]) l
/-- What world.Fit returns. -/
def wFit (ks : List Kind) (l : List Comp) : List Comp × Int :=
  if checkErr ks ≠ 0 then ([], checkErr ks) else if (fitGo ks [] [] l).2 ≠ 0 then ([], (fitGo ks [] [] l).2) else (kSort (fitGo ks [] [] l).1, 0)
theorem fitGo_ok {ks : List Kind} : ∀ {l pre out : List Comp}, (fitGo ks pre out l).2 = 0 → (∀ a ∈ out, ∃ b ∈ pre, b.kind = a.kind) → out.Pairwise (fun a b => a.kind ≠ b.kind) → (∀ a ∈ out, 0 ≤ a.kind ∧ a.kind < ks.length) →
    (fitGo ks pre out l).1.Pairwise (fun a b => a.kind ≠ b.kind) ∧ ∀ a ∈ (fitGo ks pre out l).1, 0 ≤ a.kind ∧ a.kind < ks.length
  | [], pre, out, h, h1, h2, h3 => ⟨h2, h3⟩
  | c :: l, pre, out, h, h1, h2, h3 => by
    rw [fitGo] at h ⊢
    split at h
    · cases h
    · rename_i g1
      rw [if_neg g1]
      split at h
      · cases h
      · rename_i g2
        rw [if_neg g2]
        split at h
        · cases h
        · rename_i k hk
          split at h
          · rename_i g3; exact absurd h g3
          · rename_i g3
            (try simp only [hk])
            rw [if_neg g3]
            refine fitGo_ok h (fun a ha => ?_) ?_ (fun a ha => ?_)
            · rcases List.mem_append.1 ha with ha | ha
              · obtain ⟨b, hb, e⟩ := h1 a ha
                exact ⟨b, by simp [hb], e⟩
              · rw [List.mem_singleton.1 ha]
                exact ⟨c, by simp, rfl⟩
            · rw [List.pairwise_append]
              refine ⟨h2, by simp, fun a ha b hb e => ?_⟩
              rw [List.mem_singleton.1 hb] at e
              obtain ⟨b2, hb2, e2⟩ := h1 a ha
              exact g2 (List.any_eq_true.2 ⟨b2, hb2, by simpa using e2.trans e⟩)
            · rcases List.mem_append.1 ha with ha | ha
              · exact h3 a ha
              · rw [List.mem_singleton.1 ha]; exact ⟨by dsimp only; omega, by dsimp only; omega⟩
/-- At most n different numbers from 0 to n - 1. -/
theorem nodup_le {α : Type} (g : α → Int) : ∀ (n : Nat) (l : List α), l.Pairwise (fun a b => g a ≠ g b) → (∀ a ∈ l, 0 ≤ g a ∧ g a < n) → l.length ≤ n := by
  intro n l h1 h2
  have h3 : (l.map fun a => (g a).toNat).Nodup := by
    rw [List.Nodup, List.pairwise_map]
    refine h1.imp_of_mem fun {a b} ha hb e => ?_
    have := h2 a ha
    have := h2 b hb
    omega
  have h4 := List.Nodup.length_le_of_subset h3 (l₂ := List.range n) (fun x hx => by
    obtain ⟨a, ha, rfl⟩ := List.mem_map.1 hx
    have := h2 a ha
    exact List.mem_range.2 (by omega))
  simpa using h4
theorem kSort_perm (l : List Comp) : (kSort l).Perm l := List.mergeSort_perm _ _
/-- A permutation in order is the sorted list. -/
theorem kSort_uniq {l u : List Comp} (hd : l.Pairwise (fun a b => a.kind ≠ b.kind)) (hp : u.Perm l) (hs : u.Pairwise (fun a b => a.kind ≤ b.kind)) : u = kSort l := by
  refine List.Perm.eq_of_pairwise (le := fun a b => a.kind ≤ b.kind) (fun a b ha hb h1 h2 => ?_) hs ?_ (hp.trans (kSort_perm l).symm)
  · have hb' : b ∈ l := (kSort_perm l).mem_iff.1 hb
    have ha' : a ∈ l := hp.mem_iff.1 ha
    obtain ⟨i, hi, rfl⟩ := List.getElem_of_mem ha'
    obtain ⟨j, hj, rfl⟩ := List.getElem_of_mem hb'
    have := List.pairwise_iff_getElem.1 hd
    rcases Nat.lt_trichotomy i j with x | x | x
    · exact absurd (by omega) (this i j hi hj x)
    · subst x; rfl
    · exact absurd (by omega) (this j i hj hi x)
  · have := List.pairwise_mergeSort (le := fun a b : Comp => decide (a.kind ≤ b.kind)) (fun a b c h1 h2 => by simp at *; omega) (fun a b => by simp; omega) l
    exact this.imp fun h => by simpa using h
/-- The place of a component of a kind. -/
def compAt (l : List Comp) (k : Int) : Nat := (l.takeWhile fun c => decide (c.kind < k)).length
end Go.Proofs.YtkoehhpfjpdkcaaGreat

namespace Go.Proofs.YtkoehhpfjpdkcaaGreat
set_option linter.unusedSimpArgs false
set_option linter.unusedVariables false

theorem genFields_len (i c : Nat) (l : List Int) : (genFields i c l).1.length = c := by
  induction c generalizing i l with
  | zero => rfl
  | succ c ih => simp [genFields, ih]
theorem genFields_names (i c : Nat) (l : List Int) : (genFields i c l).1.map (·.name) = (List.range' i c).map fieldName := by
  induction c generalizing i l with
  | zero => rfl
  | succ c ih =>
    have : (genField i l).1.name = fieldName i := by unfold genField; split <;> rfl
    simp [genFields, ih, List.range'_succ, this]
theorem genKindsFrom_len (k c : Nat) (l : List Int) : (genKindsFrom k c l).1.length = c := by
  induction c generalizing k l with
  | zero => rfl
  | succ c ih => simp [genKindsFrom, ih]
theorem genKindsFrom_names (k c : Nat) (l : List Int) : (genKindsFrom k c l).1.map (·.name) = (List.range' k c).map kindName := by
  induction c generalizing k l with
  | zero => rfl
  | succ c ih => simp [genKindsFrom, ih, List.range'_succ, genKind]

theorem fieldName_ok (i : Nat) : nameOk (fieldName i) = true := by
  unfold fieldName
  split <;> decide
theorem kindName_ok (i : Nat) : nameOk (kindName i) = true := by
  unfold kindName
  split <;> decide
theorem genField_ok (i : Nat) (l : List Int) : fieldErr (genField i l).1 = 0 := by
  have h1 := nextV_range l (n := 9) (by omega)
  have h2 := nextV_range (nextL l 9) (n := 40) (by omega)
  unfold genField
  split
  · simp [fieldErr, fieldName_ok]
  · simp [fieldErr, fieldName_ok]
    omega
theorem genFields_ok (i c : Nat) (l : List Int) : ∀ f ∈ (genFields i c l).1, fieldErr f = 0 := by
  induction c generalizing i l with
  | zero => intro f h; simp [genFields] at h
  | succ c ih =>
    intro f h
    simp only [genFields, List.mem_cons] at h
    rcases h with rfl | h
    · exact genField_ok i l
    · exact ih _ _ f h

theorem fieldsErr_nil0 : ∀ (fs pre : List Field), (∀ f ∈ fs, fieldErr f = 0) → ((pre ++ fs).map (·.name)).Nodup → fieldsErr pre fs = 0 := by
  intro fs
  induction fs with
  | nil => intro pre _ _; rfl
  | cons f fs ih =>
    intro pre h hn
    have h1 := h f (by simp)
    have h2 : pre.any (fun o => o.name == f.name) = false := by
      rw [List.any_eq_false]
      intro o ho
      simp only [beq_iff_eq]
      intro e
      rw [List.map_append, List.nodup_append] at hn
      exact hn.2.2 o.name (List.mem_map_of_mem ho) f.name (by simp) e
    simp only [fieldsErr, h1, h2]
    simp
    exact ih _ (fun x hx => h x (by simp [hx])) (by simpa using hn)
theorem kindsErr_zero : ∀ (ks pre : List Kind), (∀ k ∈ ks, oneErr k = 0) → ((pre ++ ks).map (·.name)).Nodup → kindsErr pre ks = 0 := by
  intro fs
  induction fs with
  | nil => intro pre _ _; rfl
  | cons f fs ih =>
    intro pre h hn
    have h1 := h f (by simp)
    have h2 : pre.any (fun o => o.name == f.name) = false := by
      rw [List.any_eq_false]
      intro o ho
      simp only [beq_iff_eq]
      intro e
      rw [List.map_append, List.nodup_append] at hn
      exact hn.2.2 o.name (List.mem_map_of_mem ho) f.name (by simp) e
    simp only [kindsErr, h1, h2]
    simp
    exact ih _ (fun x hx => h x (by simp [hx])) (by simpa using hn)
theorem fieldNames_nodup {c : Nat} (h : c ≤ 3) : ((List.range' 0 c).map fieldName).Nodup := by
  have : c = 0 ∨ c = 1 ∨ c = 2 ∨ c = 3 := by omega
  rcases this with rfl | rfl | rfl | rfl <;> decide
theorem kindNames_nodup {c : Nat} (h : c ≤ 4) : ((List.range' 0 c).map kindName).Nodup := by
  have : c = 0 ∨ c = 1 ∨ c = 2 ∨ c = 3 ∨ c = 4 := by omega
  rcases this with rfl | rfl | rfl | rfl | rfl <;> decide
theorem genKind_ok (k : Nat) (l : List Int) : oneErr (genKind k l).1 = 0 := by
  have h1 := nextV_range l (n := 3) (by omega)
  have h2 : (1 + nextV l 3).toNat ≤ 3 := by omega
  have h3 := fieldsErr_nil0 (genFields 0 (1 + nextV l 3).toNat (nextL l 3)).1 [] (genFields_ok _ _ _) (by
    rw [List.nil_append, genFields_names]
    exact fieldNames_nodup h2)
  have h4 := genFields_len 0 (1 + nextV l 3).toNat (nextL l 3)
  unfold oneErr genKind
  simp only [kindName_ok, h3, h4, if_true]
  rw [if_neg (by omega)]
theorem genKindsFrom_ok (i c : Nat) (l : List Int) : ∀ f ∈ (genKindsFrom i c l).1, oneErr f = 0 := by
  induction c generalizing i l with
  | zero => intro f h; simp [genKindsFrom] at h
  | succ c ih =>
    intro f h
    simp only [genKindsFrom, List.mem_cons] at h
    rcases h with rfl | h
    · exact genKind_ok i l
    · exact ih _ _ f h
theorem genKinds_len (l : List Int) : 1 ≤ (genKinds l).1.length ∧ (genKinds l).1.length ≤ 4 := by
  have h := nextV_range l (n := 4) (by omega)
  unfold genKinds
  rw [genKindsFrom_len]
  omega
theorem genKinds_nodup (l : List Int) : ((genKinds l).1.map (·.name)).Nodup := by
  have h := nextV_range l (n := 4) (by omega)
  unfold genKinds
  rw [genKindsFrom_names]
  exact kindNames_nodup (by omega)
theorem genKinds_ok (l : List Int) : ∀ k ∈ (genKinds l).1, oneErr k = 0 := genKindsFrom_ok _ _ _
theorem genKinds_check (l : List Int) : checkErr (genKinds l).1 = 0 := by
  unfold checkErr
  have := genKinds_len l
  rw [if_neg (by omega)]
  exact kindsErr_zero _ [] (genKinds_ok l) (genKinds_nodup l)
end Go.Proofs.YtkoehhpfjpdkcaaGreat

namespace Go.Proofs.YtkoehhpfjpdkcaaGreat
set_option linter.unusedVariables false
theorem near_low {f : Field} (h : fieldErr f = 0) (v : Int) : f.low ≤ nearOf f v ∧ nearOf f v ≤ highOf f := by
  have := highOf_bd h
  unfold nearOf
  rw [if_pos h]
  omega
theorem near_in {f : Field} (h : fieldErr f = 0) {v : Int} (h1 : f.low ≤ v) (h2 : v ≤ highOf f) : nearOf f v = v := by
  unfold nearOf
  rw [if_pos h]
  omega
theorem near_near {f : Field} (h : fieldErr f = 0) (v : Int) : nearOf f (nearOf f v) = nearOf f v := near_in h (near_low h v).1 (near_low h v).2
theorem near_fits {fs : List Field} (h : ∀ f ∈ fs, fieldErr f = 0) (vals : List Int) : List.zipWith nearOf fs (List.zipWith nearOf fs vals) = List.zipWith nearOf fs vals := by
  induction fs generalizing vals with
  | nil => rfl
  | cons f fs ih =>
    cases vals with
    | nil => rfl
    | cons v vals => simp [near_near (h f (by simp)), ih (fun x hx => h x (by simp [hx]))]
theorem fitOf_ok {k : Kind} (h : oneErr k = 0) {vals : List Int} (hl : vals.length = k.fields.length) : fitOf k vals = (List.zipWith nearOf k.fields vals, 0) := by
  unfold fitOf
  rw [if_neg (by simp [h]), if_neg (by simp [hl])]
theorem genKind_fields (k : Nat) (l : List Int) : (∀ f ∈ (genKind k l).1.fields, fieldErr f = 0) ∧ (genKind k l).1.fields.length ≤ 3 := by
  have h1 := nextV_range l (n := 3) (by omega)
  refine ⟨genFields_ok _ _ _, ?_⟩
  show (genFields _ _ _).1.length ≤ 3
  rw [genFields_len]
  omega
theorem genKindsFrom_fields (i c : Nat) (l : List Int) : ∀ k ∈ (genKindsFrom i c l).1, (∀ f ∈ k.fields, fieldErr f = 0) ∧ k.fields.length ≤ 3 := by
  induction c generalizing i l with
  | zero => intro f h; simp [genKindsFrom] at h
  | succ c ih =>
    intro f h
    simp only [genKindsFrom, List.mem_cons] at h
    rcases h with rfl | h
    · exact genKind_fields i l
    · exact ih _ _ f h
theorem genKinds_fields (l : List Int) : ∀ k ∈ (genKinds l).1, (∀ f ∈ k.fields, fieldErr f = 0) ∧ k.fields.length ≤ 3 := genKindsFrom_fields _ _ _
end Go.Proofs.YtkoehhpfjpdkcaaGreat

namespace Go.Proofs.YtkoehhpfjpdkcaaGreat
set_option linter.unusedSimpArgs false
set_option linter.unusedVariables false
/-- The values for the first i fields. -/
def vAt (fs : List Field) (l : List Int) : Nat → List Int × List Int
  | 0 => ([], l)
  | i + 1 => match fs[i]? with
    | some f => ((vAt fs l i).1 ++ [f.low + nextV (vAt fs l i).2 (2 ^ f.bits.toNat)], nextL (vAt fs l i).2 (2 ^ f.bits.toNat))
    | none => vAt fs l i
/-- The components of the first i kinds. -/
def cAt (ks : List Kind) (l : List Int) : Nat → List Comp × List Int
  | 0 => ([], l)
  | i + 1 => match ks[i]? with
    | some k => if nextV (cAt ks l i).2 3 = 2 then ((cAt ks l i).1, nextL (cAt ks l i).2 3)
      else ((cAt ks l i).1 ++ [⟨i, (vAt k.fields (nextL (cAt ks l i).2 3) k.fields.length).1⟩], (vAt k.fields (nextL (cAt ks l i).2 3) k.fields.length).2)
    | none => cAt ks l i
def genComps (ks : List Kind) (l : List Int) : List Comp × List Int := cAt ks l ks.length
/-- The generations and items of the first i slots. -/
def wAt (ks : List Kind) (l : List Int) : Nat → List Int × List Item × List Int
  | 0 => ([], [], l)
  | i + 1 =>
    if nextV (nextL (wAt ks l i).2.2 3) 4 = 3 ∨ (wAt ks l i).2.1.length = 8 then ((wAt ks l i).1 ++ [nextV (wAt ks l i).2.2 3], (wAt ks l i).2.1, nextL (nextL (wAt ks l i).2.2 3) 4)
    else ((wAt ks l i).1 ++ [nextV (wAt ks l i).2.2 3], (wAt ks l i).2.1 ++ [⟨⟨i, nextV (wAt ks l i).2.2 3⟩, (genComps ks (nextL (nextL (wAt ks l i).2.2 3) 4)).1⟩], (genComps ks (nextL (nextL (wAt ks l i).2.2 3) 4)).2)
def genWorld (l : List Int) : Wd :=
  ⟨(genKinds l).1, (wAt (genKinds l).1 (nextL (genKinds l).2 12) (nextV (genKinds l).2 12).toNat).1, (wAt (genKinds l).1 (nextL (genKinds l).2 12) (nextV (genKinds l).2 12).toNat).2.1⟩
/-- Fields whose values are small numbers. -/
def FieldOK (f : Field) : Prop := 0 ≤ f.bits ∧ f.bits ≤ 32 ∧ -2147483648 ≤ f.low ∧ f.low ≤ 2147483648
def KindsOK (ks : List Kind) : Prop := ks.length ≤ 1099511627776 ∧ ∀ k ∈ ks, k.fields.length ≤ 1099511627776 ∧ ∀ f ∈ k.fields, FieldOK f
end Go.Proofs.YtkoehhpfjpdkcaaGreat

namespace Go.Proofs.YtkoehhpfjpdkcaaGreat
set_option linter.unusedVariables false
theorem vAt_len (fs : List Field) (l : List Int) (i : Nat) : (vAt fs l i).1.length ≤ i := by
  induction i with
  | zero => simp [vAt]
  | succ i ih => rw [vAt]; split <;> (try simp only [List.length_append, List.length_singleton]) <;> omega
theorem cAt_len (ks : List Kind) (l : List Int) (i : Nat) : (cAt ks l i).1.length ≤ i := by
  induction i with
  | zero => simp [cAt]
  | succ i ih => rw [cAt]; split <;> (try split) <;> (try simp only [List.length_append, List.length_singleton]) <;> omega
theorem vAt_next {fs : List Field} {l : List Int} {i : Nat} (h : i < fs.length) : vAt fs l (i + 1) = ((vAt fs l i).1 ++ [fs[i].low + nextV (vAt fs l i).2 (2 ^ fs[i].bits.toNat)], nextL (vAt fs l i).2 (2 ^ fs[i].bits.toNat)) := by
  rw [vAt, List.getElem?_eq_getElem h]
theorem cAt_no {ks : List Kind} {l : List Int} {i : Nat} (h : i < ks.length) (h2 : nextV (cAt ks l i).2 3 = 2) : cAt ks l (i + 1) = ((cAt ks l i).1, nextL (cAt ks l i).2 3) := by
  rw [cAt, List.getElem?_eq_getElem h]; simp only; rw [if_pos h2]
theorem cAt_yes {ks : List Kind} {l : List Int} {i : Nat} (h : i < ks.length) (h2 : nextV (cAt ks l i).2 3 ≠ 2) : cAt ks l (i + 1) = ((cAt ks l i).1 ++ [⟨i, (vAt ks[i].fields (nextL (cAt ks l i).2 3) ks[i].fields.length).1⟩], (vAt ks[i].fields (nextL (cAt ks l i).2 3) ks[i].fields.length).2) := by
  rw [cAt, List.getElem?_eq_getElem h]; simp only; rw [if_neg h2]
theorem pow_small {b : Nat} (h : b ≤ 32) : (1 : Int) ≤ 2 ^ b ∧ (2 : Int) ^ b ≤ 4294967296 := by
  have h1 : (2 : Nat) ^ b ≤ 2 ^ 32 := Nat.pow_le_pow_right (by decide) h
  have h2 : 0 < (2 : Nat) ^ b := Nat.pow_pos (by decide)
  have h3 : ((2 : Int) ^ b) = (((2 : Nat) ^ b : Nat) : Int) := by simp
  rw [h3]
  have : (2 : Nat) ^ 32 = 4294967296 := by decide
  omega
theorem comps_po (G : Nat) (ks : List Kind) (l : List Int) (hk : KindsOK ks) : PO Tryz.prog 33 [kindsA false false ks, .ptr G 0 0] G (streamO l) (compsA true false (genComps ks l).1) (streamO (genComps ks l).2) := by
  refine Spec.of (nt := 50) (res := [.tmp 4]) Tryz.func33 rfl (by kernel_rfl) rfl rfl rfl fun Sf => ?_
  obtain ⟨hk0, hk1⟩ := hk
  (repeat refine WF ?_); refine AWP.region ?_; (repeat (first | refine WO ?_ | refine All.i fun X => ?_ | refine AllY.i fun Y => ?_)); refine AOps.nil ?_; (repeat refine WN ?_)
  (repeat refine WF ?_); refine AWP.region ?_; (repeat (first | refine WO ?_ | refine All.i fun X => ?_ | refine AllY.i fun Y => ?_)); refine AOps.nil ?_; (repeat refine WN ?_)
  (repeat refine WF ?_); refine AWP.region ?_; (repeat (first | refine WO ?_ | refine All.i fun X => ?_ | refine AllY.i fun Y => ?_)); refine AOps.nil ?_; (repeat refine WN ?_)
  (repeat first | refine AOps.nil ?_ | refine WF ?_)
  refine AWP.adopt (d := 5) 104 2 rfl fun K => ?_
  refine AWP.lp5 (fun (i K : Nat) (M : List AV) (n : Nat) (q : List Int) => ⟨[(1, .ptr G 0 0), (5, .sl K 0 n), (11, kindsA false false ks), (12, iA (ks.map (kindA false)).length), (13, iA i)], (K, .row 104 2 M) :: (G, streamO q) :: Sf⟩) (fun i _ M n q => i ≤ ks.length ∧ M = (cAt ks l i).1.map (compA false) ∧ n = M.length ∧ q = (cAt ks l i).2) (fun i _ _ _ _ => ks.length - i) 0 K [] 0 l ⟨Nat.zero_le _, rfl, rfl, rfl⟩ ?_
  rintro i K M n q ⟨hi, hM, hn, hq⟩
  (repeat (first | refine WK ?_ | refine All.i fun X => ?_ | refine AllY.i fun Y => ?_))
  refine AWP.cond rfl (fun hc => ?_) (fun hc => ?_)
  · have h : i < ks.length := by simpa using hc
    obtain ⟨hf0, hf1⟩ := hk1 _ (List.getElem_mem h)
    have h3 := nextV_range q (n := 3) (by decide)
    have hn1 : n + 1 ≤ 1099511627776 := by have := cAt_len ks l i; rw [hn, hM, List.length_map]; omega
    (repeat (first | (refine AOps.gN ?_; first | (refine AOps.g_callf ?_; first | refine AOps.o2 (h := (next_po G _ _ (by decide))) (k := ?_))) | refine WK ?_ | refine All.i fun X => ?_ | refine AllY.i fun Y => ?_))
    refine AWP.cond rfl (fun he => ?_) (fun he => ?_)
    · have he : nextV q 3 = 2 := by simpa using he
      (repeat (first | refine WK ?_ | refine All.i fun X => ?_ | refine AllY.i fun Y => ?_))
      refine lp_next5 (i + 1) K M n _ ⟨h, ?_, hn, ?_⟩
      · rw [cAt_no h (hq ▸ he), hM]
      · rw [cAt_no h (hq ▸ he), hq]
    · have he : nextV q 3 ≠ 2 := by simpa using he
      (repeat refine WF ?_); refine AWP.region ?_; (repeat (first | refine WO ?_ | refine All.i fun Y => ?_ | refine AllY.i fun Y => ?_)); refine AOps.nil ?_; (repeat refine WN ?_)
      refine AWP.adoptIn (Y := Y) 3 1 .here (fun F => .cons (.agg (.cons .same (.cons (.base .nil) .nil))) .nil) fun F => ?_
      (repeat (first | refine WK ?_ | refine All.i fun X => ?_ | refine AllY.i fun Y => ?_))
      obtain ⟨fs, hfs⟩ : ∃ fs, ks[i].fields = fs := ⟨_, rfl⟩
      obtain ⟨q1, hq1⟩ : ∃ q1, nextL q 3 = q1 := ⟨_, rfl⟩
      rw [hq1, hfs]
      have hck : cAt ks l (i + 1) = ((cAt ks l i).1 ++ [⟨i, (vAt fs q1 fs.length).1⟩], (vAt fs q1 fs.length).2) := by rw [cAt_yes h (hq ▸ he), ← hq, hq1, hfs]
      rw [hfs] at hf0 hf1
      refine AWP.lp5 (fun (j F : Nat) (L : List AV) (m : Nat) (r : List Int) => ⟨[(1, .ptr G 0 0), (5, .sl K 0 n), (6, iA i), (8, .ptr Y 0 0), (11, kindsA false false ks), (12, iA (ks.map (kindA false)).length), (13, iA i), (24, fieldsA false fs), (25, iA (fs.map fieldA).length), (26, iA j)], (F, .row 3 1 L) :: (Y, .row 104 2 [.agg [iA i, .sl F 0 m]]) :: (K, .row 104 2 M) :: (G, streamO r) :: Sf⟩) (fun j _ L m r => j ≤ fs.length ∧ L = (vAt fs q1 j).1.map iA ∧ m = L.length ∧ r = (vAt fs q1 j).2) (fun j _ _ _ _ => fs.length - j) 0 F [] 0 q1 ⟨Nat.zero_le _, rfl, rfl, rfl⟩ ?_
      rintro j F L m r ⟨hj, hL, hm, hr⟩
      (repeat (first | refine WK ?_ | refine All.i fun X => ?_ | refine AllY.i fun Y => ?_))
      refine AWP.cond rfl (fun hd => ?_) (fun hd => ?_)
      · have hj' : j < fs.length := by simpa using hd
        obtain ⟨hb0, hb1, hl0, hl1⟩ := hf1 _ (List.getElem_mem hj')
        obtain ⟨b, hb⟩ : ∃ b : Nat, fs[j].bits = b := ⟨fs[j].bits.toNat, by omega⟩
        have hp := pow_small (b := b) (by omega)
        have hw : IntKind.i64.wrap (1 * 2 ^ b) = 2 ^ b := by rw [Int.one_mul]; exact wrap_id (by omega) (by omega)
        have hv := nextV_range r (n := IntKind.i64.wrap (1 * 2 ^ b)) (by omega)
        have hm1 : m + 1 ≤ 1099511627776 := by have := vAt_len fs q1 j; rw [hm, hL, List.length_map]; omega
        (repeat (first | refine WK ?_ | refine All.i fun Z => ?_ | refine AllY.i fun Y => ?_))
        refine AWP.rs fun X7 => ?_
        (repeat refine WF ?_); refine AWP.region_run (by kernel_rfl) (by kernel_rfl) ?_; (repeat (first | (refine RGo.gN ?_; first | (refine RGo.g_callf ?_; first | refine RGo.o2 (h := (next_po G _ _ (by rw [hw]; omega))) (k := ?_)) | refine RGo.p (W.shl rfl rfl hb (by show b ≤ 64; omega)) rfl ?_ | refine RGo.p (W.add rfl rfl (by omega)) rfl ?_) | (refine RGo.gQ ?_; first | (refine RGo.g_callf ?_; first | refine RGo.o2 (h := (next_po G _ _ (by rw [hw]; omega))) (k := ?_)) | refine RGo.p (W.shl rfl rfl hb (by show b ≤ 64; omega)) rfl ?_ | refine RGo.p (W.add rfl rfl (by omega)) rfl ?_) | refine RK ?_ | refine RGo.nil (by kernel_rfl) ?_))
        (repeat (first | refine WK ?_ | refine All.i fun X => ?_ | refine AllY.i fun Y => ?_))
        have hva : vAt fs q1 (j + 1) = ((vAt fs q1 j).1 ++ [fs[j].low + nextV r (IntKind.i64.wrap (1 * 2 ^ b))], nextL r (IntKind.i64.wrap (1 * 2 ^ b))) := by rw [vAt_next hj', ← hr, hw, hb]; rfl
        refine lp_next5 (j + 1) X7 _ _ _ ⟨hj', ?_, ?_, ?_⟩
        · rw [hva, hL, List.map_append]; rfl
        · rw [List.length_append, hm]
        · rw [hva]
      · have hj' : j = fs.length := by rw [decide_eq_false_iff_not, List.length_map] at hd; omega
        subst hj'
        (repeat first | refine AOps.nil ?_ | refine WF ?_)
        refine AWP.iceIn (X := F) (Y := Y) .here (.next .here) rfl (.cons (.agg (.cons .same (.cons (.base (.sl (by omega))) .nil))) .nil) ?_
        have hF : AV.frzs ((L.drop 0).take m) = (vAt fs q1 fs.length).1.map iA := by
          rw [List.drop_zero, List.take_of_length_le (by omega), hL]
          exact Frzs.h
        rw [hF]
        (repeat (first | (refine AOps.gN ?_; first | (refine AOps.g_lit ?_; refine AOps.goL (compA false ⟨i, (vAt fs q1 fs.length).1⟩) ?_)) | refine WK ?_ | refine All.i fun X => ?_ | refine AllY.i fun Y => ?_))
        refine lp_next5 (i + 1) Y _ _ _ ⟨h, ?_, ?_, ?_⟩
        · rw [hck, hM, List.map_append]; rfl
        · rw [List.length_append, hn]
        · rw [hck, hr]
  · have h : i = ks.length := by rw [decide_eq_false_iff_not, List.length_map] at hc; omega
    subst h
    (repeat (first | refine WK ?_ | refine All.i fun X => ?_ | refine AllY.i fun Y => ?_))
    (refine AWP.ret ?_; (repeat (first | refine inB_r ?_ | refine andThen_r ?_)); refine retQ_r ?_)
    subst hM hq
    exact ⟨[.sl K 0 n], [.lst true 104 2 ((cAt ks l ks.length).1.map (compA false))], _, [(G, streamO (cAt ks l ks.length).2)], .cons (.tmp rfl) rfl .nil, .cons (.cell (.sl (p := 0) .here hn)) .nil, by exact Sub.f, rfl, rfl⟩
theorem wAt_len1 (ks : List Kind) (l : List Int) (i : Nat) : (wAt ks l i).1.length = i := by
  induction i with
  | zero => rfl
  | succ i ih => rw [wAt]; split <;> simp [ih]
theorem wAt_len2 (ks : List Kind) (l : List Int) (i : Nat) : (wAt ks l i).2.1.length ≤ i := by
  induction i with
  | zero => simp [wAt]
  | succ i ih => rw [wAt]; split <;> (try simp only [List.length_append, List.length_singleton]) <;> omega
/-- A made world: its lists of generations and items are its own. -/
def wdO (w : Wd) : AV := .agg [kindsA false false w.kinds, intsA true w.gens, itemsA true false w.items]
instance {w : Wd} : Frz (wdO w) (wdA false w) := ⟨by unfold wdO wdA; exact Frz.h⟩
theorem genField_rng (i : Nat) (l : List Int) : FieldOK (genField i l).1 := by
  have h9 := nextV_range l (n := 9) (by decide)
  have h40 := nextV_range (nextL l 9) (n := 40) (by decide)
  unfold genField
  split <;> refine ⟨?_, ?_, ?_, ?_⟩ <;> simp <;> omega
theorem fAt_rng (i : Nat) (l : List Int) : ∀ f ∈ (fAt i l).1, FieldOK f := by
  induction i with
  | zero => intro f hf; cases hf
  | succ i ih =>
    intro f hf
    rcases List.mem_append.1 hf with hf | hf
    · exact ih f hf
    · rw [List.mem_singleton.1 hf]; exact genField_rng _ _
theorem genKind_rng (k : Nat) (l : List Int) : (genKind k l).1.fields.length ≤ 3 ∧ ∀ f ∈ (genKind k l).1.fields, FieldOK f := by
  have h := nextV_range l (n := 3) (by decide)
  show (genFields 0 (1 + nextV l 3).toNat (nextL l 3)).1.length ≤ 3 ∧ ∀ f ∈ (genFields 0 (1 + nextV l 3).toNat (nextL l 3)).1, FieldOK f
  rw [genFields_at]
  exact ⟨by rw [fAt_len]; omega, fAt_rng _ _⟩
theorem kAt_rng (i : Nat) (l : List Int) : ∀ k ∈ (kAt i l).1, k.fields.length ≤ 3 ∧ ∀ f ∈ k.fields, FieldOK f := by
  induction i with
  | zero => intro f hf; cases hf
  | succ i ih =>
    intro f hf
    rcases List.mem_append.1 hf with hf | hf
    · exact ih f hf
    · rw [List.mem_singleton.1 hf]; exact genKind_rng _ _
theorem genKinds_cnt (l : List Int) : (genKinds l).1.length = (1 + nextV l 4).toNat := by rw [genKinds_at, kAt_len]
theorem genKinds_rng (l : List Int) : KindsOK (genKinds l).1 := by
  have h := nextV_range l (n := 4) (by decide)
  refine ⟨by rw [genKinds_cnt]; omega, ?_⟩
  rw [genKinds_at]
  intro k hk
  have := kAt_rng _ _ k hk
  exact ⟨by omega, this.2⟩
theorem world_ps (l : List Int) : PS Tryz.prog 10 [intsA false l] (wdO (genWorld l)) := by
  refine Spec.of (nt := 52) (res := [.cell 2 27]) Tryz.func10 rfl (by kernel_rfl) rfl rfl rfl fun Sf => ?_
  have hko := genKinds_rng l
  obtain ⟨ks, hks⟩ : ∃ ks, (genKinds l).1 = ks := ⟨_, rfl⟩
  obtain ⟨l1, hl1⟩ : ∃ l1, (genKinds l).2 = l1 := ⟨_, rfl⟩
  have h12 := nextV_range l1 (n := 12) (by decide)
  obtain ⟨c, hc⟩ : ∃ c : Nat, nextV l1 12 = c := ⟨(nextV l1 12).toNat, by omega⟩
  obtain ⟨l2, hl2⟩ : ∃ l2, nextL l1 12 = l2 := ⟨_, rfl⟩
  have hg : genWorld l = ⟨ks, (wAt ks l2 c).1, (wAt ks l2 c).2.1⟩ := by unfold genWorld; rw [hks, hl1, hl2, hc]; rfl
  have hkp := fun G => kinds_po G l
  rw [hks, hl1] at hkp
  rw [hks] at hko
  rw [hg]
  clear hg hks hl1
  (repeat refine WF ?_); refine AWP.region ?_; (repeat (first | refine WO ?_ | refine All.i fun R => ?_ | refine AllY.i fun Y => ?_)); refine AOps.nil ?_; (repeat refine WN ?_)
  (repeat refine WF ?_); refine AWP.region ?_; (repeat (first | refine WO ?_ | refine All.i fun G => ?_ | refine AllY.i fun Y => ?_)); refine AOps.nil ?_; (repeat refine WN ?_)
  (repeat refine WF ?_); refine AWP.region ?_; (repeat (first | (refine AOps.gN ?_; first | (refine AOps.g_callf ?_; first | refine AOps.o1 (h := (hkp G)) (k := ?_))) | refine WO ?_ | refine All.i fun V => ?_ | refine AllY.i fun Y => ?_)); refine AOps.nil ?_; (repeat refine WN ?_)
  (repeat refine WF ?_); refine AWP.region ?_; (repeat (first | (refine AOps.gN ?_; first | (refine AOps.g_callf ?_; first | refine AOps.o2 (h := (next_po G _ _ (by decide))) (k := ?_))) | refine WO ?_ | refine All.i fun X => ?_ | refine AllY.i fun Y => ?_)); refine AOps.nil ?_; (repeat refine WN ?_)
  rw [hl2, hc]
  refine AWP.adoptIn (Y := V) 48 3 (by exact At.f) (fun F => .cons (.agg (.cons .same (.cons .same (.cons (.base .nil) .nil)))) .nil) fun B => ?_
  refine AWP.adoptIn (Y := V) 3 1 (by exact At.f) (fun F => .cons (.agg (.cons .same (.cons (.base .nil) (.cons .same .nil)))) .nil) fun A => ?_
  (repeat first | refine AOps.nil ?_ | refine WF ?_)
  refine AWP.lp7 (fun (i A B : Nat) (L M : List AV) (n : Nat) (q : List Int) => ⟨[(2, .ptr R 0 0), (3, .ptr G 0 0), (4, .ptr V 0 0), (13, iA c), (14, iA i)], (A, .row 3 1 L) :: (B, .row 48 3 M) :: (V, .row 27 3 [.agg [kindsA false false ks, .sl A 0 i, .sl B 0 n]]) :: (G, streamO q) :: (R, .row 27 3 [.agg [.prim (.slice none 0 0), .prim (.slice none 0 0), .prim (.slice none 0 0)]]) :: Sf⟩) (fun i _ _ L M n q => i ≤ c ∧ L = (wAt ks l2 i).1.map iA ∧ M = (wAt ks l2 i).2.1.map (itemA false) ∧ n = M.length ∧ q = (wAt ks l2 i).2.2) (fun i _ _ _ _ _ _ => c - i) 0 A B [] [] 0 l2 ⟨Nat.zero_le _, rfl, rfl, rfl, rfl⟩ ?_
  rintro i A B L M n q ⟨hi, hL, hM, hn, hq⟩
  have hA := wAt_len1 ks l2 i
  have hB := wAt_len2 ks l2 i
  (repeat (first | refine WK ?_ | refine All.i fun X => ?_ | refine AllY.i fun Y => ?_))
  refine AWP.cond rfl (fun hd => ?_) (fun hd => ?_)
  · have h : i < c := by rw [decide_eq_true_eq] at hd; omega
    have h3 := nextV_range q (n := 3) (by decide)
    have h4 := nextV_range (nextL q 3) (n := 4) (by decide)
    (repeat refine WF ?_); refine AWP.region ?_; (repeat (first | refine WO ?_ | refine All.i fun X => ?_ | refine AllY.i fun Y => ?_)); refine AOps.nil ?_; (repeat refine WN ?_)
    refine AWP.rs fun X7 => ?_
    (repeat refine WF ?_); refine AWP.region_run (by kernel_rfl) (by kernel_rfl) ?_; (repeat (first | (refine RGo.gN ?_; first | (refine RGo.g_callf ?_; first | refine RGo.o2 (h := (next_po G _ _ (by decide))) (k := ?_))) | (refine RGo.gQ ?_; first | (refine RGo.g_callf ?_; first | refine RGo.o2 (h := (next_po G _ _ (by decide))) (k := ?_))) | refine RK ?_ | refine RGo.nil (by kernel_rfl) ?_))
    (repeat (first | (refine AOps.gN ?_; first | (refine AOps.g_callf ?_; first | refine AOps.o2 (h := (next_po G _ _ (by decide))) (k := ?_))) | refine WK ?_ | refine All.i fun X => ?_ | refine AllY.i fun Y => ?_))
    have hLl : L.length = i := by rw [hL, List.length_map, hA]
    obtain ⟨IT, hIT⟩ : ∃ IT, (wAt ks l2 i).2.1 = IT := ⟨_, rfl⟩
    rw [hIT] at hM hB
    have hnl : n = IT.length := by rw [hn, hM, List.length_map]
    have hat : (L ++ [.prim (.int .i64 (nextV q 3))])[i]? = some (.prim (.int .i64 (nextV q 3))) := by rw [← hLl]; simp
    refine AWP.cond rfl (fun he => ?_) (fun he => ?_)
    · have he : nextV (nextL q 3) 4 = 3 ∨ n = 8 := by rw [Bool.or_eq_true, decide_eq_true_eq, decide_eq_true_eq] at he; omega
      have hw : wAt ks l2 (i + 1) = ((wAt ks l2 i).1 ++ [nextV q 3], IT, nextL (nextL q 3) 4) := by rw [wAt, ← hq, hIT, ← hnl, if_pos he]
      (repeat (first | refine WK ?_ | refine All.i fun X => ?_ | refine AllY.i fun Y => ?_))
      refine lp_next7 (i + 1) X7 B _ M n _ ⟨h, ?_, ?_, hn, ?_⟩
      · rw [hw, hL, List.map_append]; rfl
      · rw [hw, hM]
      · rw [hw]
    · have he : ¬ (nextV (nextL q 3) 4 = 3 ∨ n = 8) := by rw [Bool.or_eq_false_iff, decide_eq_false_iff_not, decide_eq_false_iff_not] at he; omega
      have hw : wAt ks l2 (i + 1) = ((wAt ks l2 i).1 ++ [nextV q 3], IT ++ [⟨⟨i, nextV q 3⟩, (genComps ks (nextL (nextL q 3) 4)).1⟩], (genComps ks (nextL (nextL q 3) 4)).2) := by rw [wAt, ← hq, hIT, ← hnl, if_neg he]
      have hin : i < i + [AV.prim (.int .i64 (nextV q 3))].length := Nat.lt_succ_self i
      refine AWP.rs fun X8 => ?_
      (repeat refine WF ?_); refine AWP.region_run (by kernel_rfl) (by kernel_rfl) ?_; (repeat (first | (refine RGo.gN ?_; first | (refine RGo.g_callf ?_; first | refine RGo.o2 (h := (comps_po G ks _ hko)) (k := ?_)) | (refine RGo.g_lit ?_; refine RGo.goL (itemA false ⟨⟨i, nextV q 3⟩, (genComps ks (nextL (nextL q 3) 4)).1⟩) ?_)) | (refine RGo.gQ ?_; first | (refine RGo.g_callf ?_; first | refine RGo.o2 (h := (comps_po G ks _ hko)) (k := ?_)) | (refine RGo.g_lit ?_; refine RGo.goL (itemA false ⟨⟨i, nextV q 3⟩, (genComps ks (nextL (nextL q 3) 4)).1⟩) ?_)) | refine RK ?_ | refine RGo.nil (by kernel_rfl) ?_))
      (repeat (first | refine WK ?_ | refine All.i fun X => ?_ | refine AllY.i fun Y => ?_))
      refine lp_next7 (i + 1) X7 X8 _ _ _ _ ⟨h, ?_, ?_, ?_, ?_⟩
      · rw [hw, hL, List.map_append]; rfl
      · rw [hw, hM, List.map_append]; rfl
      · rw [List.length_append, hn]
      · rw [hw]
  · have h : i = c := by rw [decide_eq_false_iff_not] at hd; omega
    subst h
    (repeat (first | refine WK ?_ | refine All.i fun X => ?_ | refine AllY.i fun Y => ?_))
    (refine AWP.ret ?_; (repeat (first | refine inB_r ?_ | refine andThen_r ?_)); refine retQ_r ?_)
    subst hL hM
    have hA : i = ((wAt ks l2 i).1.map iA).length := by rw [List.length_map, hA]
    exact ⟨[.agg [kindsA false false ks, .sl A 0 i, .sl B 0 n]], [wdO ⟨ks, (wAt ks l2 i).1, (wAt ks l2 i).2.1⟩], _, [], .cons (.cell (p := 4) rfl (by exact At.f) TAg.h TSize.h rfl rfl) rfl .nil, .cons (.agg (.cons .same (.cons (.sl (p := 0) .here hA) (.cons (.sl (p := 0) .here hn) .nil)))) .nil, by exact Sub.f, rfl, rfl⟩
end Go.Proofs.YtkoehhpfjpdkcaaGreat

namespace Go.Proofs.YtkoehhpfjpdkcaaGreat
set_option linter.unusedVariables false
theorem cAt_mem {ks : List Kind} {l : List Int} {i : Nat} {c : Comp} (h : c ∈ (cAt ks l i).1) : ∃ (j : Nat) (hj : j < ks.length) (q : List Int), j < i ∧ c = ⟨j, (vAt ks[j].fields q ks[j].fields.length).1⟩ := by
  induction i with
  | zero => cases h
  | succ i ih =>
    by_cases hi : i < ks.length
    · by_cases h2 : nextV (cAt ks l i).2 3 = 2
      · rw [cAt_no hi h2] at h
        obtain ⟨j, hj, q, h3, h4⟩ := ih h
        exact ⟨j, hj, q, by omega, h4⟩
      · rw [cAt_yes hi h2] at h
        rcases List.mem_append.1 h with h | h
        · obtain ⟨j, hj, q, h3, h4⟩ := ih h
          exact ⟨j, hj, q, by omega, h4⟩
        · rw [List.mem_singleton.1 h]
          exact ⟨i, hi, _, by omega, rfl⟩
    · rw [cAt, List.getElem?_eq_none (by omega)] at h
      obtain ⟨j, hj, q, h3, h4⟩ := ih h
      exact ⟨j, hj, q, by omega, h4⟩
theorem wAt_mem {ks : List Kind} {l : List Int} {i : Nat} {it : Item} (h : it ∈ (wAt ks l i).2.1) : ∃ (j : Nat) (q : List Int), j < i ∧ (wAt ks l i).1[j]? = some it.ent.gen ∧ it.ent.n = j ∧ it.comps = (genComps ks q).1 := by
  induction i with
  | zero => cases h
  | succ i ih =>
    have hl := wAt_len1 ks l i
    have hup : ∀ (x : Int) (g : Int) (j : Nat), (wAt ks l i).1[j]? = some g → ((wAt ks l i).1 ++ [x])[j]? = some g := fun x g j hg => by
      rw [List.getElem?_append_left (List.getElem?_eq_some_iff.1 hg).1, hg]
    rw [wAt] at h ⊢
    split
    · rename_i hs
      rw [if_pos hs] at h
      obtain ⟨j, q, h1, h2, h3, h4⟩ := ih h
      exact ⟨j, q, by omega, hup _ _ _ h2, h3, h4⟩
    · rename_i hs
      rw [if_neg hs] at h
      rcases List.mem_append.1 h with h | h
      · obtain ⟨j, q, h1, h2, h3, h4⟩ := ih h
        exact ⟨j, q, by omega, hup _ _ _ h2, h3, h4⟩
      · rw [List.mem_singleton.1 h]
        exact ⟨i, _, by omega, by rw [List.getElem?_append_right (by omega), hl]; simp, rfl, rfl⟩
theorem genKinds_small (l : List Int) : (genKinds l).1.length ≤ 4 ∧ ∀ k ∈ (genKinds l).1, k.fields.length ≤ 3 := by
  have h := nextV_range l (n := 4) (by decide)
  refine ⟨by rw [genKinds_cnt]; omega, ?_⟩
  rw [genKinds_at]
  intro k hk
  exact (kAt_rng _ _ k hk).1
theorem genWorld_small (l : List Int) : (genWorld l).items.length ≤ 12 ∧ (genWorld l).gens.length ≤ 12 ∧ ∀ it ∈ (genWorld l).items, it.comps.length ≤ 4 ∧ ∀ c ∈ it.comps, c.vals.length ≤ 3 := by
  have h := nextV_range (genKinds l).2 (n := 12) (by decide)
  have h1 := wAt_len2 (genKinds l).1 (nextL (genKinds l).2 12) (nextV (genKinds l).2 12).toNat
  have h2 := wAt_len1 (genKinds l).1 (nextL (genKinds l).2 12) (nextV (genKinds l).2 12).toNat
  obtain ⟨h3, h4⟩ := genKinds_small l
  refine ⟨Nat.le_trans h1 (by omega), Nat.le_trans (Nat.le_of_eq h2) (by omega), fun it hit => ?_⟩
  obtain ⟨j, q, _, _, _, hc⟩ := wAt_mem hit
  rw [hc]
  refine ⟨Nat.le_trans (cAt_len _ _ _) h3, fun c hcm => ?_⟩
  obtain ⟨j, hj, q, _, rfl⟩ := cAt_mem hcm
  exact Nat.le_trans (vAt_len _ _ _) (h4 _ (List.getElem_mem hj))
end Go.Proofs.YtkoehhpfjpdkcaaGreat

namespace Go.Proofs.YtkoehhpfjpdkcaaGreat
set_option linter.unusedVariables false
theorem heldFrom_iff {ks : List Kind} : ∀ {l : List Comp} {last : Int}, -1 ≤ last → (heldFrom ks last l = true ↔ l.Pairwise (fun a b => a.kind < b.kind) ∧ ∀ c ∈ l, last < c.kind ∧ c.kind < ks.length ∧ ∃ k, ks[c.kind.toNat]? = some k ∧ holdsOf k c.vals = true)
  | [], _, _ => by simp [heldFrom]
  | c :: l, last, hl => by
    rw [heldFrom]
    constructor
    · intro h
      split at h
      · rename_i k hk
        simp only [Bool.and_eq_true, decide_eq_true_eq] at h
        obtain ⟨⟨⟨h1, h2⟩, h3⟩, h4⟩ := h
        obtain ⟨h5, h6⟩ := (heldFrom_iff (by omega)).1 h4
        refine ⟨List.pairwise_cons.2 ⟨fun d hd => (h6 d hd).1, h5⟩, fun d hd => ?_⟩
        rcases List.mem_cons.1 hd with rfl | hd
        · exact ⟨h1, h2, k, hk, h3⟩
        · obtain ⟨q1, q2⟩ := h6 d hd
          exact ⟨by omega, q2⟩
      · cases h
    · rintro ⟨h1, h2⟩
      obtain ⟨h3, h4⟩ := List.pairwise_cons.1 h1
      obtain ⟨h5, h6, k, hk, h7⟩ := h2 c (by simp)
      rw [hk]
      simp only [Bool.and_eq_true, decide_eq_true_eq]
      exact ⟨⟨⟨h5, h6⟩, h7⟩, (heldFrom_iff (by omega)).2 ⟨h4, fun d hd => ⟨h3 d hd, (h2 d (by simp [hd])).2⟩⟩⟩
theorem itemsFrom_iff {ks : List Kind} {gens : List Int} : ∀ {l : List Item} {last : Int}, -1 ≤ last → (itemsFrom ks gens last l = true ↔ l.Pairwise (fun a b => a.ent.n < b.ent.n) ∧ ∀ it ∈ l, last < it.ent.n ∧ it.ent.n < gens.length ∧ gens[it.ent.n.toNat]? = some it.ent.gen ∧ it.ent.gen ≠ 1073741824 ∧ heldOf ks it.comps = true)
  | [], _, _ => by simp [itemsFrom]
  | c :: l, last, hl => by
    rw [itemsFrom]
    constructor
    · intro h
      split at h
      · rename_i k hk
        simp only [Bool.and_eq_true, decide_eq_true_eq, Bool.not_eq_true', decide_eq_false_iff_not] at h
        obtain ⟨⟨⟨⟨⟨h1, h2⟩, h3⟩, h4⟩, h7⟩, h8⟩ := h
        obtain ⟨h5, h6⟩ := (itemsFrom_iff (by omega)).1 h8
        refine ⟨List.pairwise_cons.2 ⟨fun d hd => (h6 d hd).1, h5⟩, fun d hd => ?_⟩
        rcases List.mem_cons.1 hd with rfl | hd
        · exact ⟨h1, h2, by rw [hk, h3], h4, h7⟩
        · obtain ⟨q1, q2⟩ := h6 d hd
          exact ⟨by omega, q2⟩
      · cases h
    · rintro ⟨h1, h2⟩
      obtain ⟨h3, h4⟩ := List.pairwise_cons.1 h1
      obtain ⟨h5, h6, hk, h7, h8⟩ := h2 c (by simp)
      rw [hk]
      simp only [Bool.and_eq_true, decide_eq_true_eq, Bool.not_eq_true', decide_eq_false_iff_not]
      exact ⟨⟨⟨⟨⟨h5, h6⟩, trivial⟩, h7⟩, h8⟩, (itemsFrom_iff (by omega)).2 ⟨h4, fun d hd => ⟨h3 d hd, (h2 d (by simp [hd])).2⟩⟩⟩
/-- What a valid world is. -/
structure WdOK (w : Wd) : Prop where
  ks : checkErr w.kinds = 0
  gl : w.gens.length ≤ 256
  il : w.items.length ≤ w.gens.length
  gs : ∀ g ∈ w.gens, 0 ≤ g ∧ g ≤ 1073741824
  so : w.items.Pairwise fun a b => a.ent.n < b.ent.n
  it : ∀ it ∈ w.items, 0 ≤ it.ent.n ∧ it.ent.n < w.gens.length ∧ w.gens[it.ent.n.toNat]? = some it.ent.gen ∧ it.ent.gen ≠ 1073741824 ∧ heldOf w.kinds it.comps = true
theorem wdErr_iff (w : Wd) : wdErr w = 0 ↔ WdOK w := by
  have hg : gensOk w.gens = true ↔ ∀ g ∈ w.gens, 0 ≤ g ∧ g ≤ 1073741824 := by
    unfold gensOk
    rw [List.all_eq_true]
    simp only [Bool.and_eq_true, decide_eq_true_eq]
  have hi := itemsFrom_iff (ks := w.kinds) (gens := w.gens) (l := w.items) (last := -1) (by omega)
  unfold wdErr
  constructor
  · intro h
    split at h
    · exact absurd h ‹_›
    rename_i h1
    split at h
    · cases h
    rename_i h2
    split at h
    · cases h
    rename_i h3
    split at h
    · cases h
    rename_i h4
    obtain ⟨h5, h6⟩ := hi.1 (by simpa using h4)
    exact ⟨by simpa using h1, by omega, by omega, hg.1 (by simpa using h3), h5, fun it hit => by obtain ⟨a, b⟩ := h6 it hit; exact ⟨by omega, b⟩⟩
  · intro h
    rw [if_neg (by simp [h.ks]), if_neg (by have := h.gl; have := h.il; omega), if_neg (by rw [hg.2 h.gs]; simp), if_neg (by rw [hi.2 ⟨h.so, fun it hit => by obtain ⟨a, b⟩ := h.it it hit; exact ⟨by omega, b⟩⟩]; simp)]
theorem cAt_pair (ks : List Kind) (l : List Int) (i : Nat) : (cAt ks l i).1.Pairwise fun a b => a.kind < b.kind := by
  induction i with
  | zero => exact .nil
  | succ i ih =>
    by_cases hi : i < ks.length
    · by_cases h2 : nextV (cAt ks l i).2 3 = 2
      · rw [cAt_no hi h2]; exact ih
      · rw [cAt_yes hi h2]
        refine List.pairwise_append.2 ⟨ih, List.pairwise_singleton .., fun a ha b hb => ?_⟩
        rw [List.mem_singleton.1 hb]
        obtain ⟨j, hj, q, hji, rfl⟩ := cAt_mem ha
        show (j : Int) < i
        omega
    · rw [cAt, List.getElem?_eq_none (by omega)]; exact ih
theorem vAt_fit {fs : List Field} (hf : ∀ f ∈ fs, fieldErr f = 0) (hr : ∀ f ∈ fs, FieldOK f) (l : List Int) : ∀ i, i ≤ fs.length → List.zipWith nearOf (fs.take i) (vAt fs l i).1 = (vAt fs l i).1 ∧ (vAt fs l i).1.length = i
  | 0, _ => ⟨rfl, rfl⟩
  | i + 1, h => by
    obtain ⟨h1, h2⟩ := vAt_fit hf hr l i (by omega)
    rw [vAt_next (by omega)]
    have hm := List.getElem_mem (l := fs) (n := i) (by omega)
    obtain ⟨hb0, hb1, _, _⟩ := hr _ hm
    have hp := pow_small (b := fs[i].bits.toNat) (by omega)
    have hv := nextV_range (vAt fs l i).2 (n := 2 ^ fs[i].bits.toNat) (by omega)
    have hh : highOf fs[i] = fs[i].low + (2 ^ fs[i].bits.toNat - 1) := by unfold highOf; rw [if_pos (hf _ hm)]
    refine ⟨?_, by rw [List.length_append, h2]; rfl⟩
    rw [List.take_succ_eq_append_getElem (by omega), List.zipWith_append (by rw [h2, List.length_take]; omega), h1]
    simp only [List.zipWith_cons_cons, List.zipWith_nil_left]
    rw [near_in (hf _ hm) (by omega) (by rw [hh]; omega)]
theorem vAt_holds {k : Kind} (h1 : oneErr k = 0) (hf : ∀ f ∈ k.fields, fieldErr f = 0) (hr : ∀ f ∈ k.fields, FieldOK f) (l : List Int) : holdsOf k (vAt k.fields l k.fields.length).1 = true := by
  obtain ⟨h2, h3⟩ := vAt_fit hf hr l k.fields.length (Nat.le_refl _)
  rw [List.take_length] at h2
  unfold holdsOf
  rw [fitOf_ok h1 h3, h2]
  simp
/-- Kinds as they are made. -/
structure KsGood (ks : List Kind) : Prop where
  one : ∀ k ∈ ks, oneErr k = 0
  fld : ∀ k ∈ ks, ∀ f ∈ k.fields, fieldErr f = 0
  rng : ∀ k ∈ ks, ∀ f ∈ k.fields, FieldOK f
theorem genKinds_good (l : List Int) : KsGood (genKinds l).1 :=
  ⟨genKinds_ok l, fun k hk => (genKinds_fields l k hk).1, fun k hk => ((genKinds_rng l).2 k hk).2⟩
theorem genComps_held {ks : List Kind} (h : KsGood ks) (l : List Int) : heldOf ks (genComps ks l).1 = true := by
  unfold heldOf
  rw [heldFrom_iff (by omega)]
  refine ⟨cAt_pair _ _ _, fun c hc => ?_⟩
  obtain ⟨j, hj, q, _, rfl⟩ := cAt_mem hc
  have hm := List.getElem_mem hj
  exact ⟨by show (-1 : Int) < (j : Int); omega, by show (j : Int) < _; omega, ks[j], List.getElem?_eq_getElem hj, vAt_holds (h.one _ hm) (h.fld _ hm) (h.rng _ hm) q⟩
theorem wAt_pair (ks : List Kind) (l : List Int) (i : Nat) : (wAt ks l i).2.1.Pairwise fun a b => a.ent.n < b.ent.n := by
  induction i with
  | zero => exact .nil
  | succ i ih =>
    rw [wAt]
    split
    · exact ih
    · refine List.pairwise_append.2 ⟨ih, List.pairwise_singleton .., fun a ha b hb => ?_⟩
      rw [List.mem_singleton.1 hb]
      obtain ⟨j, q, hji, _, e, _⟩ := wAt_mem ha
      show a.ent.n < (i : Int)
      omega
theorem wAt_gens (ks : List Kind) (l : List Int) (i : Nat) : ∀ g ∈ (wAt ks l i).1, 0 ≤ g ∧ g < 3 := by
  induction i with
  | zero => intro g hg; cases hg
  | succ i ih =>
    intro g hg
    rw [wAt] at hg
    have h3 := nextV_range (wAt ks l i).2.2 (n := 3) (by decide)
    split at hg <;>
    · rcases List.mem_append.1 hg with hg | hg
      · exact ih g hg
      · rw [List.mem_singleton.1 hg]; exact h3
/-- Made worlds are valid. -/
theorem genWorld_ok (l : List Int) : WdOK (genWorld l) := by
  have h := nextV_range (genKinds l).2 (n := 12) (by decide)
  have h1 := wAt_len2 (genKinds l).1 (nextL (genKinds l).2 12) (nextV (genKinds l).2 12).toNat
  have h2 := wAt_len1 (genKinds l).1 (nextL (genKinds l).2 12) (nextV (genKinds l).2 12).toNat
  have h3 := wAt_gens (genKinds l).1 (nextL (genKinds l).2 12) (nextV (genKinds l).2 12).toNat
  refine ⟨genKinds_check l, ?_, ?_, fun g hg => ?_, wAt_pair _ _ _, fun it hit => ?_⟩
  · exact Nat.le_trans (Nat.le_of_eq h2) (by omega)
  · exact Nat.le_trans h1 (Nat.le_of_eq h2.symm)
  · have := h3 g hg; omega
  · obtain ⟨j, q, hji, hg, hn, hc⟩ := wAt_mem hit
    have hjl : j < (wAt (genKinds l).1 (nextL (genKinds l).2 12) (nextV (genKinds l).2 12).toNat).1.length := (List.getElem?_eq_some_iff.1 hg).1
    have hgm := h3 _ (List.mem_of_getElem? hg)
    refine ⟨by omega, ?_, ?_, by omega, by rw [hc]; exact genComps_held (genKinds_good l) q⟩
    · rw [hn]; show (j : Int) < ((wAt _ _ _).1.length : Int); omega
    · rw [hn]; exact hg
end Go.Proofs.YtkoehhpfjpdkcaaGreat

namespace Go.Proofs.YtkoehhpfjpdkcaaGreat
set_option linter.unusedVariables false
section
variable {α : Type} {key : α → Int} {l a b : List α}
/-- In strictly increasing order of a key. -/
def KS (key : α → Int) (l : List α) : Prop := l.Pairwise fun a b => key a < key b
theorem ks_uniq (h : KS key l) {x y : α} (hx : x ∈ l) (hy : y ∈ l) (e : key x = key y) : x = y := by
  induction l with
  | nil => cases hx
  | cons z l ih =>
    obtain ⟨h1, h2⟩ := List.pairwise_cons.1 h
    rcases List.mem_cons.1 hx with q | q <;> rcases List.mem_cons.1 hy with r | r
    · rw [q, r]
    · subst q; have := h1 y r; omega
    · subst r; have := h1 x q; omega
    · exact ih h2 q r
theorem split_at {i : Nat} {y : α} (hi : l[i]? = some y) : l = l.take i ++ y :: l.drop (i + 1) := by
  obtain ⟨h, rfl⟩ := List.getElem?_eq_some_iff.1 hi
  rw [← List.drop_eq_getElem_cons h, List.take_append_drop]
theorem ks_parts {i : Nat} {y : α} (h : KS key l) (hi : l[i]? = some y) : KS key (l.take i) ∧ KS key (l.drop (i + 1)) ∧ (∀ x ∈ l.take i, key x < key y) ∧ (∀ x ∈ l.drop (i + 1), key y < key x) ∧ ∀ x, x ∈ l ↔ x ∈ l.take i ∨ x = y ∨ x ∈ l.drop (i + 1) := by
  have e := split_at hi
  have h' := h
  rw [e] at h'
  obtain ⟨h1, h2, h3⟩ := List.pairwise_append.1 h'
  obtain ⟨h4, h5⟩ := List.pairwise_cons.1 h2
  refine ⟨h1, h5, fun x hx => h3 x hx y (by simp), h4, fun x => ?_⟩
  conv => lhs; rw [e]
  simp
theorem ks_set {i : Nat} {y z : α} (h : KS key l) (hi : l[i]? = some y) (hk : key z = key y) : KS key (l.set i z) ∧ ∀ x, x ∈ l.set i z ↔ x = z ∨ (x ∈ l ∧ key x ≠ key z) := by
  obtain ⟨h1, h2, h3, h4, h5⟩ := ks_parts h hi
  obtain ⟨hl, _⟩ := List.getElem?_eq_some_iff.1 hi
  have e : l.set i z = l.take i ++ z :: l.drop (i + 1) := List.set_eq_take_append_cons_drop.trans (if_pos hl)
  rw [e]
  refine ⟨List.pairwise_append.2 ⟨h1, List.pairwise_cons.2 ⟨fun x hx => by have := h4 x hx; omega, h2⟩, fun x hx w hw => ?_⟩, fun x => ?_⟩
  · rcases List.mem_cons.1 hw with rfl | hw
    · have := h3 x hx; omega
    · have := h3 x hx; have := h4 w hw; omega
  · rw [h5, List.mem_append, List.mem_cons]
    constructor
    · rintro (hx | rfl | hx)
      · exact .inr ⟨.inl hx, by have := h3 x hx; omega⟩
      · exact .inl rfl
      · exact .inr ⟨.inr (.inr hx), by have := h4 x hx; omega⟩
    · rintro (rfl | ⟨hx | rfl | hx, hn⟩)
      · exact .inr (.inl rfl)
      · exact .inl hx
      · exact absurd hk.symm hn
      · exact .inr (.inr hx)
theorem ks_find (h : KS key l) {n : Int} {x : α} : (l.find? fun y => decide (key y = n)) = some x ↔ x ∈ l ∧ key x = n := by
  constructor
  · intro e
    exact ⟨List.mem_of_find?_eq_some e, by simpa using List.find?_some e⟩
  · rintro ⟨hx, e⟩
    cases hf : l.find? fun y => decide (key y = n) with
    | none => rw [List.find?_eq_none] at hf; exact absurd (by simpa using e) (hf x hx)
    | some z => rw [ks_uniq h hx (List.mem_of_find?_eq_some hf) (by have := List.find?_some hf; simp at this; omega)]
end
/- Components. -/
theorem held_iff {ks : List Kind} {l : List Comp} : heldOf ks l = true ↔ SortC l ∧ ∀ c ∈ l, 0 ≤ c.kind ∧ c.kind < ks.length ∧ ∃ k, ks[c.kind.toNat]? = some k ∧ holdsOf k c.vals = true := by
  unfold heldOf
  rw [heldFrom_iff (by omega)]
  constructor
  · rintro ⟨h1, h2⟩
    exact ⟨h1, fun c hc => ⟨by have := (h2 c hc).1; omega, (h2 c hc).2⟩⟩
  · rintro ⟨h1, h2⟩
    exact ⟨h1, fun c hc => ⟨by have := (h2 c hc).1; omega, (h2 c hc).2⟩⟩
theorem compOf_iff {l : List Comp} (h : SortC l) {k : Int} {c : Comp} : compOf l k = some c ↔ c ∈ l ∧ c.kind = k := ks_find (key := Comp.kind) h
/- Fitting. -/
theorem kindsErr_one {pre ks : List Kind} (h : kindsErr pre ks = 0) : ∀ k ∈ ks, oneErr k = 0 := by
  induction ks generalizing pre with
  | nil => intro k hk; cases hk
  | cons x l ih =>
    intro k hk
    simp only [kindsErr] at h
    split at h
    · exact absurd h ‹_›
    · rename_i hx
      split at h
      · cases h
      · rcases List.mem_cons.1 hk with rfl | hk
        · simpa using hx
        · exact ih h k hk
theorem checkErr_one {ks : List Kind} (h : checkErr ks = 0) : ks.length ≤ 16 ∧ ∀ k ∈ ks, oneErr k = 0 := by
  unfold checkErr at h
  split at h
  · cases h
  · exact ⟨by omega, kindsErr_one h⟩
/-- The component with fitted values. -/
def fitC (ks : List Kind) (c : Comp) : Comp := match ks[c.kind.toNat]? with
  | some k => ⟨c.kind, (fitOf k c.vals).1⟩
  | none => c
/-- A component that fits. -/
def FitOK (ks : List Kind) (c : Comp) : Prop := 0 ≤ c.kind ∧ c.kind < ks.length ∧ ∃ k, ks[c.kind.toNat]? = some k ∧ (fitOf k c.vals).2 = 0
theorem fitC_eq {ks : List Kind} {c : Comp} {k : Kind} (h : ks[c.kind.toNat]? = some k) : fitC ks c = ⟨c.kind, (fitOf k c.vals).1⟩ := by
  unfold fitC; rw [h]
theorem fitGo_good {ks : List Kind} : ∀ {l pre out : List Comp}, (∀ c ∈ l, FitOK ks c) → l.Pairwise (fun a b => a.kind ≠ b.kind) → (∀ a ∈ pre, ∀ b ∈ l, a.kind ≠ b.kind) → fitGo ks pre out l = (out ++ l.map (fitC ks), 0)
  | [], pre, out, _, _, _ => by simp [fitGo]
  | c :: l, pre, out, h1, h2, h3 => by
    obtain ⟨a, b, k, hk, hf⟩ := h1 c (by simp)
    obtain ⟨h4, h5⟩ := List.pairwise_cons.1 h2
    have hany : pre.any (fun o => decide (o.kind = c.kind)) = false := by
      rw [List.any_eq_false]
      intro x hx
      simpa using h3 x hx c (by simp)
    rw [fitGo, if_neg (by omega), hany, if_neg (by simp), hk]
    dsimp only
    rw [if_neg (by simp [hf]), fitGo_good (fun d hd => h1 d (by simp [hd])) h5 (fun x hx d hd => ?_), List.map_cons, fitC_eq hk]
    · simp
    · rcases List.mem_append.1 hx with hx | hx
      · exact h3 x hx d (by simp [hd])
      · rw [List.mem_singleton.1 hx]; exact h4 d hd
theorem wFit_good {ks : List Kind} (hk : checkErr ks = 0) {l : List Comp} (h1 : ∀ c ∈ l, FitOK ks c) (h2 : l.Pairwise (fun a b => a.kind ≠ b.kind)) : wFit ks l = (kSort (l.map (fitC ks)), 0) := by
  unfold wFit
  rw [if_neg (by simp [hk]), fitGo_good h1 h2 (fun _ h => by cases h), if_neg (by simp)]
  rfl
theorem kSort_of {l : List Comp} (h : SortC l) : kSort l = l :=
  (kSort_uniq (h.imp fun h => by omega) (List.Perm.refl _) (h.imp fun h => by omega)).symm
theorem holds_fit {k : Kind} {v : List Int} (h : holdsOf k v = true) : fitOf k v = (v, 0) := by
  unfold holdsOf at h
  simp only [Bool.and_eq_true, decide_eq_true_eq] at h
  exact Prod.ext h.2 h.1
theorem fitOf_holds {k : Kind} {v : List Int} (h : (fitOf k v).2 = 0) : holdsOf k (fitOf k v).1 = true ∧ (fitOf k v).1 = List.zipWith nearOf k.fields v ∧ v.length = k.fields.length := by
  unfold fitOf at h ⊢
  split at h
  · exact absurd h ‹_›
  · rename_i h1
    have h1 : oneErr k = 0 := by simpa using h1
    split at h
    · cases h
    · rename_i h2
      have h2 : v.length = k.fields.length := by simpa using h2
      rw [if_neg (by simp [h1]), if_neg (by simp [h2])]
      refine ⟨?_, rfl, h2⟩
      unfold holdsOf
      rw [fitOf_ok h1 (by simp [h2]), near_fits (oneErr_zero h1).2.2]
      simp
theorem fit_held {ks : List Kind} {l : List Comp} (h : heldOf ks l = true) : (∀ c ∈ l, FitOK ks c) ∧ l.Pairwise (fun a b => a.kind ≠ b.kind) ∧ l.map (fitC ks) = l := by
  obtain ⟨hs, hm⟩ := held_iff.1 h
  refine ⟨fun c hc => ?_, hs.imp fun h => by omega, ?_⟩
  · obtain ⟨a, b, k, hk, hh⟩ := hm c hc
    exact ⟨a, b, k, hk, by rw [holds_fit hh]⟩
  · conv => rhs; rw [← List.map_id l]
    refine List.map_congr_left fun c hc => ?_
    obtain ⟨a, b, k, hk, hh⟩ := hm c hc
    rw [fitC_eq hk, holds_fit hh]
    rfl
theorem wFit_held {ks : List Kind} (hk : checkErr ks = 0) {l : List Comp} (h : heldOf ks l = true) : wFit ks l = (l, 0) := by
  obtain ⟨h1, h2, h3⟩ := fit_held h
  rw [wFit_good hk h1 h2, h3, kSort_of (held_iff.1 h).1]
theorem held_small {ks : List Kind} (hk : checkErr ks = 0) {l : List Comp} (h : heldOf ks l = true) : l.length ≤ 16 ∧ ∀ c ∈ l, c.vals.length ≤ 8 := by
  obtain ⟨hs, hm⟩ := held_iff.1 h
  obtain ⟨h16, ho⟩ := checkErr_one hk
  refine ⟨Nat.le_trans (nodup_le Comp.kind _ _ (hs.imp fun h => by omega) fun c hc => ⟨(hm c hc).1, (hm c hc).2.1⟩) h16, fun c hc => ?_⟩
  obtain ⟨_, _, k, hk2, hh⟩ := hm c hc
  have h8 := (oneErr_zero (ho k (List.mem_of_getElem? hk2))).2.1
  have := fitOf_holds (k := k) (v := c.vals) (by rw [holds_fit hh])
  omega
/-- Valid worlds are small. -/
theorem WdOK.wl {w : Wd} (h : WdOK w) : WdL w := by
  obtain ⟨h16, ho⟩ := checkErr_one h.ks
  refine ⟨⟨by omega, fun k hk => by have := (oneErr_zero (ho k hk)).2.1; omega⟩, by have := h.gl; omega, by have := h.gl; have := h.il; omega, fun it hit => ?_⟩
  obtain ⟨h1, h2⟩ := held_small h.ks (h.it it hit).2.2.2.2
  exact ⟨by omega, fun c hc => by have := h2 c hc; omega⟩
theorem genKinds_pos (l : List Int) : 0 < (genKinds l).1.length := by
  have h := nextV_range l (n := 4) (by decide)
  have : ∀ i c q, (genKindsFrom i c q).1.length = c := by
    intro i c
    induction c generalizing i with
    | zero => intro q; rfl
    | succ c ih => intro q; simp only [genKindsFrom, List.length_cons, ih]
  unfold genKinds
  rw [this]
  omega
/- Places. -/
theorem tw_len {α : Type} {p : α → Bool} : ∀ {l : List α} {i : Nat}, i ≤ l.length → (∀ (j : Nat) (x : α), j < i → l[j]? = some x → p x = true) → (∀ x, l[i]? = some x → p x = false) → (l.takeWhile p).length = i
  | [], i, h, _, _ => by have : i = 0 := by simpa using h
                         subst this; rfl
  | x :: l, 0, _, _, h2 => by rw [List.takeWhile_cons, h2 x rfl]; rfl
  | x :: l, i + 1, h, h1, h2 => by
    rw [List.takeWhile_cons, h1 0 x (by omega) rfl]
    show (l.takeWhile p).length + 1 = i + 1
    rw [tw_len (i := i) (by simpa using h) (fun j y hj hy => h1 (j + 1) y (by omega) hy) (fun y hy => h2 y hy)]
end Go.Proofs.YtkoehhpfjpdkcaaGreat

namespace Go.Proofs.YtkoehhpfjpdkcaaGreat
set_option linter.unusedSimpArgs false
set_option linter.unusedVariables false
def sysName (n : Nat) : List UInt8 := match n with
  | 0 => [111, 110, 101]
  | 1 => [116, 119, 111]
  | 2 => [116, 104, 114, 101, 101]
  | 3 => [102, 111, 117, 114]
  | 4 => [102, 105, 118, 101]
  | _ => [115, 105, 120]
/-- The number of fields of a kind. -/
def flds (ks : List Kind) (i : Int) : Int := match ks[i.toNat]? with
  | some k => k.fields.length
  | none => 0
/-- The argument that a stream gives, and the stream behind it. -/
def argOf (ks : List Kind) (seen : List Int) (l : List Int) : Arg × List Int :=
  if nextV l 2 = 0 then (⟨false, nextV (nextL l 2) 20 - 6, ⟨0, 0⟩⟩, nextL (nextL l 2) 20)
  else (⟨true, 0, ⟨seen.getD (nextV (nextL l 2) seen.length).toNat 0, nextV (nextL (nextL l 2) seen.length) (flds ks (seen.getD (nextV (nextL l 2) seen.length).toNat 0))⟩⟩,
    nextL (nextL (nextL l 2) seen.length) (flds ks (seen.getD (nextV (nextL l 2) seen.length).toNat 0)))
/-- A reference to a field that there is. -/
def RefOK (ks : List Kind) (r : Ref) : Prop := 0 ≤ r.kind ∧ r.kind < ks.length ∧ 0 ≤ r.field ∧ r.field < flds ks r.kind
def ArgOK (ks : List Kind) (seen : List Int) (a : Arg) : Prop := (a.has = true → a.n = 0 ∧ RefOK ks a.ref ∧ a.ref.kind ∈ seen) ∧ (a.has = false → -6 ≤ a.n ∧ a.n ≤ 13 ∧ a.ref = ⟨0, 0⟩)
def arg0 : Arg := ⟨false, 0, ⟨0, 0⟩⟩
/-- Does an operation use its second argument? -/
def twoOp (d : Int) : Bool := (decide (1 ≤ d) && decide (d ≤ 6)) || decide (d = 12)
structure OpOK (ks : List Kind) (reads writes : List Int) (o : Op) : Prop where
  lo : 0 ≤ o.act
  hi : o.act ≤ 12
  a : ArgOK ks (reads ++ writes) o.a
  b : if twoOp o.act then ArgOK ks (reads ++ writes) o.b else o.b = arg0
  sets : o.act ≤ 7 → RefOK ks o.to ∧ o.to.kind ∈ writes
  puts : o.act = 8 ∨ o.act = 9 → 0 ≤ o.to.kind ∧ o.to.kind < ks.length ∧ o.to.field = 0
  none : 10 ≤ o.act → o.to = ⟨0, 0⟩
/-- The lists of kinds of a system. -/
structure SysL (w1 w2 w3 w4 : List Int) (n : Int) : Prop where
  o1 : w1.Pairwise (· < ·)
  o2 : w2.Pairwise (· < ·)
  o3 : w3.Pairwise (· < ·)
  o4 : w4.Pairwise (· < ·)
  r1 : ∀ x ∈ w1, 0 ≤ x ∧ x < n
  r2 : ∀ x ∈ w2, 0 ≤ x ∧ x < n
  d : ∀ x ∈ w1, x ∉ w2
  s3 : ∀ x ∈ w3, x ∈ w1
  s4 : ∀ x ∈ w4, x ∈ w1
  all : ∀ x ∈ w1, x ∈ w3 ∨ x ∈ w4
structure SysOK (ks : List Kind) (n : Nat) (s : Sys) : Prop where
  name : s.name = sysName n
  lists : SysL s.wth s.wout s.reads s.writes ks.length
  some : s.wth ≠ []
  len : s.ops.length ≤ 5
  ops : ∀ o ∈ s.ops, OpOK ks s.reads s.writes o
  spawn : s.spawn = [] ∨ ∃ q, s.spawn = (genComps ks q).1
theorem SysL.nil (n : Int) : SysL [] [] [] [] n := ⟨.nil, .nil, .nil, .nil, by simp, by simp, by simp, by simp, by simp, by simp⟩
theorem SysL.weaken {w1 w2 w3 w4 : List Int} {n m : Int} (h : SysL w1 w2 w3 w4 n) (hm : n ≤ m) : SysL w1 w2 w3 w4 m :=
  ⟨h.o1, h.o2, h.o3, h.o4, fun x hx => ⟨(h.r1 x hx).1, by have := (h.r1 x hx).2; omega⟩, fun x hx => ⟨(h.r2 x hx).1, by have := (h.r2 x hx).2; omega⟩, h.d, h.s3, h.s4, h.all⟩
theorem pw_snoc {l : List Int} {n : Int} (h : l.Pairwise (· < ·)) (hn : ∀ x ∈ l, x < n) : (l ++ [n]).Pairwise (· < ·) :=
  List.pairwise_append.2 ⟨h, List.pairwise_singleton _ _, fun x hx y hy => by rw [List.mem_singleton.1 hy]; exact hn x hx⟩
theorem SysL.read {w1 w2 w3 w4 : List Int} {n : Int} (h : SysL w1 w2 w3 w4 n) (h0 : 0 ≤ n) : SysL (w1 ++ [n]) w2 (w3 ++ [n]) w4 (n + 1) := by
  refine ⟨pw_snoc h.o1 fun x hx => (h.r1 x hx).2, h.o2, pw_snoc h.o3 fun x hx => (h.r1 x (h.s3 x hx)).2, h.o4, ?_, fun x hx => ⟨(h.r2 x hx).1, by have := (h.r2 x hx).2; omega⟩, ?_, ?_, ?_, ?_⟩
  · intro x hx
    rcases List.mem_append.1 hx with hx | hx
    · have := h.r1 x hx; omega
    · rw [List.mem_singleton.1 hx]; omega
  · intro x hx hx2
    rcases List.mem_append.1 hx with hx | hx
    · exact h.d x hx hx2
    · have := h.r2 x hx2; rw [List.mem_singleton.1 hx] at this; omega
  · intro x hx
    rcases List.mem_append.1 hx with hx | hx
    · simp [h.s3 x hx]
    · simp [List.mem_singleton.1 hx]
  · intro x hx; simp [h.s4 x hx]
  · intro x hx
    rcases List.mem_append.1 hx with hx | hx
    · rcases h.all x hx with h | h <;> simp [h]
    · simp [List.mem_singleton.1 hx]
theorem SysL.write {w1 w2 w3 w4 : List Int} {n : Int} (h : SysL w1 w2 w3 w4 n) (h0 : 0 ≤ n) : SysL (w1 ++ [n]) w2 w3 (w4 ++ [n]) (n + 1) := by
  refine ⟨pw_snoc h.o1 fun x hx => (h.r1 x hx).2, h.o2, h.o3, pw_snoc h.o4 fun x hx => (h.r1 x (h.s4 x hx)).2, ?_, fun x hx => ⟨(h.r2 x hx).1, by have := (h.r2 x hx).2; omega⟩, ?_, ?_, ?_, ?_⟩
  · intro x hx
    rcases List.mem_append.1 hx with hx | hx
    · have := h.r1 x hx; omega
    · rw [List.mem_singleton.1 hx]; omega
  · intro x hx hx2
    rcases List.mem_append.1 hx with hx | hx
    · exact h.d x hx hx2
    · have := h.r2 x hx2; rw [List.mem_singleton.1 hx] at this; omega
  · intro x hx; simp [h.s3 x hx]
  · intro x hx
    rcases List.mem_append.1 hx with hx | hx
    · simp [h.s4 x hx]
    · simp [List.mem_singleton.1 hx]
  · intro x hx
    rcases List.mem_append.1 hx with hx | hx
    · rcases h.all x hx with h | h <;> simp [h]
    · simp [List.mem_singleton.1 hx]
theorem SysL.without {w1 w2 w3 w4 : List Int} {n : Int} (h : SysL w1 w2 w3 w4 n) (h0 : 0 ≤ n) : SysL w1 (w2 ++ [n]) w3 w4 (n + 1) := by
  refine ⟨h.o1, pw_snoc h.o2 fun x hx => (h.r2 x hx).2, h.o3, h.o4, fun x hx => ⟨(h.r1 x hx).1, by have := (h.r1 x hx).2; omega⟩, ?_, ?_, h.s3, h.s4, h.all⟩
  · intro x hx
    rcases List.mem_append.1 hx with hx | hx
    · have := h.r2 x hx; omega
    · rw [List.mem_singleton.1 hx]; omega
  · intro x hx hx2
    rcases List.mem_append.1 hx2 with hx2 | hx2
    · exact h.d x hx hx2
    · have := h.r1 x hx; rw [List.mem_singleton.1 hx2] at this; omega
theorem SysL.zero {w2 w3 w4 : List Int} {n : Int} (h : SysL [] w2 w3 w4 n) (h0 : 1 ≤ n) : SysL [0] (w2.filter fun x => !decide (x = 0)) w3 [0] n := by
  refine ⟨List.pairwise_singleton _ _, h.o2.sublist List.filter_sublist, h.o3, List.pairwise_singleton _ _, by simp; omega, fun x hx => h.r2 x (List.mem_filter.1 hx).1, by simp, ?_, by simp, by simp⟩
  intro x hx
  exact absurd (h.s3 x hx) (by simp)
end Go.Proofs.YtkoehhpfjpdkcaaGreat

namespace Go.Proofs.YtkoehhpfjpdkcaaGreat
set_option linter.unusedVariables false
/-- A list that is filled from the left: the first i of l, then z. -/
def fillTo {α : Type} (f : α → AV) (z : AV) (l : List α) (i : Nat) : List AV := (l.take i).map f ++ List.replicate (l.length - i) z
theorem fillTo_zero {α : Type} (f : α → AV) (z : AV) (l : List α) : fillTo f z l 0 = List.replicate l.length z := by simp [fillTo]
theorem fillTo_len {α : Type} (f : α → AV) (z : AV) (l : List α) (i : Nat) (h : i ≤ l.length) : (fillTo f z l i).length = l.length := by simp [fillTo]; omega
theorem fillTo_at {α : Type} (f : α → AV) (z : AV) (l : List α) {i : Nat} (h : i < l.length) : (fillTo f z l i)[i]? = some z := by
  unfold fillTo
  rw [List.getElem?_append_right (by simp; omega)]
  simp only [List.length_map, List.length_take, Nat.min_eq_left (Nat.le_of_lt h), Nat.sub_self]
  rw [List.getElem?_replicate, if_pos (by omega)]
theorem fillTo_set {α : Type} (f : α → AV) (z : AV) (l : List α) {i : Nat} (h : i < l.length) : (fillTo f z l i).set i (f l[i]) = fillTo f z l (i + 1) := by
  unfold fillTo
  rw [List.set_append_right _ _ (by simp; omega), List.take_add_one, List.getElem?_eq_getElem h]
  simp only [List.length_map, List.length_take, Nat.min_eq_left (Nat.le_of_lt h), Nat.sub_self, Option.toList_some, List.map_append, List.map_cons, List.map_nil, List.append_assoc]
  congr 1
  rw [show l.length - i = (l.length - (i + 1)) + 1 from by omega, List.replicate_succ]
  rfl
theorem fillTo_all {α : Type} (f : α → AV) (z : AV) (l : List α) {i : Nat} (h : l.length ≤ i) : fillTo f z l i = l.map f := by
  unfold fillTo
  rw [List.take_of_length_le h, show l.length - i = 0 from by omega]
  simp
theorem copyComps_ps (l : List Comp) (hl : l.length ≤ 1099511627776) (hv : ∀ c ∈ l, c.vals.length ≤ 1099511627776) : PS Tryz.prog 54 [compsA false false l] (compsA true false l) := by
  refine Spec.of (nt := 27) (res := [.tmp 2]) Tryz.func54 rfl (by kernel_rfl) rfl rfl rfl fun Sf => ?_
  have hl' : (l.map (compA false)).length ≤ 1099511627776 := by simpa using hl
  (repeat (first | (refine AOps.gN ?_; first | (refine AOps.g_make ?_; refine AOps.goM (.agg [iA 0, .prim (.slice none 0 0)]) fun K => ?_)) | refine WK ?_ | refine All.i fun X => ?_ | refine AllY.i fun Y => ?_))
  refine AWP.lp (fun i : Nat => ⟨[(3, .sl K 0 (l.map (compA false)).length), (9, compsA false false l), (10, iA (l.map (compA false)).length), (11, iA i)], (K, .row 104 2 (fillTo (compA false) (.agg [iA 0, .prim (.slice none 0 0)]) l i)) :: Sf⟩) (fun i => i ≤ l.length) (fun i => l.length - i) 0 (Nat.zero_le _) ?_ ⟨by (repeat (first | exact .nil | refine .cons (by first | rfl | assumption) ?_)), by rw [fillTo_zero, ← List.length_map (f := compA false)]; exact Sub.f⟩
  rintro i hi
  (repeat (first | refine WK ?_ | refine All.i fun X => ?_ | refine AllY.i fun Y => ?_))
  refine AWP.cond rfl (fun hc => ?_) (fun hc => ?_)
  · have h : i < l.length := by simpa using hc
    have hm : i < (l.map (compA false)).length := by simpa using h
    have hat := fillTo_at (compA false) (.agg [iA 0, .prim (.slice none 0 0)]) l h
    (repeat (first | refine WK ?_ | refine All.i fun X => ?_ | refine AllY.i fun Y => ?_))
    (repeat refine WF ?_); refine AWP.region_run (by kernel_rfl) (by kernel_rfl) ?_; (repeat (first | (refine RGo.gN ?_; first | (refine RGo.g_callf ?_; first | refine RGo.c1 (h := (cloneI_ps _ (by have := hv _ (List.getElem_mem h); omega))) (k := ?_))) | (refine RGo.gQ ?_; first | (refine RGo.g_callf ?_; first | refine RGo.c1 (h := (cloneI_ps _ (by have := hv _ (List.getElem_mem h); omega))) (k := ?_))) | refine RK ?_ | refine RGo.nil (by kernel_rfl) ?_))
    (repeat (first | refine WK ?_ | refine All.i fun X => ?_ | refine AllY.i fun Y => ?_))
    have hs := fillTo_set (compA false) (.agg [iA 0, .prim (.slice none 0 0)]) l h
    refine lp_nextS (i + 1) h ?_
    dsimp only
    rw [← hs]
    exact Sub.f
  · have h : l.length ≤ i := by rw [decide_eq_false_iff_not, List.length_map] at hc; omega
    rw [fillTo_all _ _ _ h]
    (repeat (first | refine WK ?_ | refine All.i fun X => ?_ | refine AllY.i fun Y => ?_))
    (refine AWP.ret ?_; (repeat (first | refine inB_r ?_ | refine andThen_r ?_)); refine retQ_r ?_)
    exact ⟨[.sl K 0 (l.map (compA false)).length], [.lst true 104 2 (l.map (compA false))], _, [], .cons (.tmp rfl) rfl .nil, .cons (.cell (.sl (p := 0) .here rfl)) .nil, by exact Sub.f, rfl, rfl⟩
end Go.Proofs.YtkoehhpfjpdkcaaGreat

namespace Go.Proofs.YtkoehhpfjpdkcaaGreat
set_option linter.unusedVariables false
def mix1 (x : UInt64) : UInt64 := (x ^^^ (x >>> UInt64.ofNat 31)) * 7640891576956012809
def mix2 (x : UInt64) : UInt64 := (x ^^^ (x >>> UInt64.ofNat 27)) * 13503953896175478587
/-- What rnd.Mix returns. -/
def mixU (x : UInt64) : UInt64 := mix2 (mix1 x) ^^^ (mix2 (mix1 x) >>> UInt64.ofNat 30)
theorem mix_ps (x : UInt64) : PS Tryz.prog 57 [uA x] (uA (mixU x)) := by
  refine Spec.of (nt := 17) (res := [.tmp 2]) Tryz.func57 rfl (by kernel_rfl) rfl rfl rfl fun Sf => ?_
  (repeat refine WF ?_); refine AWP.region ?_; (repeat (first | refine WO ?_ | refine All.i fun X => ?_ | refine AllY.i fun Y => ?_)); refine AOps.nil ?_; (repeat refine WN ?_)
  (repeat refine WF ?_); refine AWP.region ?_; (repeat (first | (refine AOps.gN ?_; first | refine AOps.p (W.shrU 31 (by omega) rfl rfl rfl) rfl ?_ | refine AOps.p (W.xorU rfl rfl) rfl ?_ | refine AOps.p (W.mulU (b := 7640891576956012809) rfl rfl) rfl ?_) | refine WO ?_ | refine All.i fun X => ?_ | refine AllY.i fun Y => ?_)); refine AOps.nil ?_; (repeat refine WN ?_)
  rw [show (x ^^^ (x >>> UInt64.ofNat 31)) * 7640891576956012809 = mix1 x from rfl]
  (repeat refine WF ?_); refine AWP.region ?_; (repeat (first | (refine AOps.gN ?_; first | refine AOps.p (W.shrU 27 (by omega) rfl rfl rfl) rfl ?_ | refine AOps.p (W.xorU rfl rfl) rfl ?_ | refine AOps.p (W.mulU (b := 13503953896175478587) rfl rfl) rfl ?_) | refine WO ?_ | refine All.i fun X => ?_ | refine AllY.i fun Y => ?_)); refine AOps.nil ?_; (repeat refine WN ?_)
  rw [show (mix1 x ^^^ (mix1 x >>> UInt64.ofNat 27)) * 13503953896175478587 = mix2 (mix1 x) from rfl]
  (repeat refine WF ?_); refine AWP.region ?_; (repeat (first | (refine AOps.gN ?_; first | refine AOps.p (W.shrU 30 (by omega) rfl rfl rfl) rfl ?_ | refine AOps.p (W.xorU rfl rfl) rfl ?_) | refine WO ?_ | refine All.i fun X => ?_ | refine AllY.i fun Y => ?_)); refine AOps.nil ?_; (repeat refine WN ?_)
  (refine AWP.ret ?_; (repeat (first | refine inB_r ?_ | refine andThen_r ?_)); refine retQ_r ?_); refine Ends.ps ?_
  rfl
end Go.Proofs.YtkoehhpfjpdkcaaGreat

namespace Go.Proofs.YtkoehhpfjpdkcaaGreat
set_option linter.unusedVariables false
def gold : UInt64 := 11400714819323198485
def stepU (s : UInt64) (n : Int) : UInt64 := mixU (s + gold) ^^^ UInt64.ofInt n
def rndA (r : UInt64 × UInt64) : AV := .agg [uA r.1, uA r.2]
instance {r : UInt64 × UInt64} : Frz (rndA r) (rndA r) := ⟨rfl⟩
/-- What rnd.Of returns. -/
def rndOf (l : List Int) : UInt64 × UInt64 := (mixU (l.foldl stepU (UInt64.ofNat l.length) + gold), mixU (mixU (l.foldl stepU (UInt64.ofNat l.length) + gold) + gold) ||| 1)
theorem rndOf_ps (l : List Int) (hl : l.length ≤ 1099511627776) : PS Tryz.prog 26 [intsA false l] (rndA (rndOf l)) := by
  have hlm : (l.map iA).length = l.length := List.length_map _
  refine Spec.of (nt := 31) (res := [.cell 2 70]) Tryz.func26 rfl (by kernel_rfl) rfl rfl rfl fun Sf => ?_
  (repeat refine WF ?_); refine AWP.region ?_; (repeat (first | refine WO ?_ | refine All.i fun R => ?_ | refine AllY.i fun Y => ?_)); refine AOps.nil ?_; (repeat refine WN ?_)
  (repeat (first | (refine AOps.gN ?_; first | refine AOps.p (W.toUN .i64 (l.map iA).length rfl (by omega) (by kernel_rfl) (by kernel_rfl) rfl) rfl ?_) | refine WK ?_ | refine All.i fun X => ?_ | refine AllY.i fun Y => ?_))
  obtain ⟨e, he⟩ : ∃ e, l.foldl stepU (UInt64.ofNat l.length) = e := ⟨_, rfl⟩
  refine AWP.lp2 (fun (i : Nat) (s : UInt64) => ⟨[(2, .ptr R 0 0), (3, uA s), (9, intsA false l), (10, iA (l.map iA).length), (11, iA i)], (R, .row 70 2 [.agg [uA 0, uA 0]]) :: Sf⟩) (fun i s => i ≤ l.length ∧ (l.drop i).foldl stepU s = e) (fun i _ => l.length - i) 0 (UInt64.ofNat (l.map iA).length) ⟨Nat.zero_le _, by rw [hlm]; exact he⟩ ?_
  rintro i s ⟨hi, hs⟩
  (repeat (first | refine WK ?_ | refine All.i fun X => ?_ | refine AllY.i fun Y => ?_))
  refine AWP.cond rfl (fun hc => ?_) (fun hc => ?_)
  · have h : i < l.length := by rw [decide_eq_true_eq, hlm] at hc; omega
    have hat : (l.map iA)[i]? = some (iA l[i]) := by rw [List.getElem?_map, List.getElem?_eq_getElem h]; rfl
    have h1 := mix_ps (s + gold)
    (repeat refine WF ?_); refine AWP.region ?_; (repeat (first | refine WO ?_ | refine All.i fun X => ?_ | refine AllY.i fun Y => ?_)); refine AOps.nil ?_; (repeat refine WN ?_)
    (repeat (first | (refine AOps.gN ?_; first | (refine AOps.g_callf ?_; first | refine AOps.c1 (h := (h1 ..)) (k := ?_)) | refine AOps.p (W.addU (b := gold) rfl rfl) rfl ?_ | refine AOps.p (W.toU .i64 (by kernel_rfl) (by kernel_rfl) rfl) rfl ?_ | refine AOps.p (W.xorU rfl rfl) rfl ?_) | refine WK ?_ | refine All.i fun X => ?_ | refine AllY.i fun Y => ?_))
    refine lp_next2 (i + 1) (stepU s l[i]) ⟨h, ?_⟩
    rw [← hs, List.drop_eq_getElem_cons h]; rfl
  · have h : i = l.length := by rw [decide_eq_false_iff_not, hlm] at hc; omega
    rw [h, List.drop_length] at hs
    have hs : s = e := hs
    subst hs
    have h1 := mix_ps (s + gold)
    (repeat refine WF ?_); refine AWP.region ?_; (repeat (first | (refine AOps.gN ?_; first | (refine AOps.g_callf ?_; first | refine AOps.c1 (h := (h1 ..)) (k := ?_)) | refine AOps.p (W.addU (b := gold) rfl rfl) rfl ?_) | refine WO ?_ | refine All.i fun X => ?_ | refine AllY.i fun Y => ?_)); refine AOps.nil ?_; (repeat refine WN ?_)
    have h2 := mix_ps (mixU (s + gold) + gold)
    (repeat refine WF ?_); refine AWP.region ?_; (repeat (first | (refine AOps.gN ?_; first | (refine AOps.g_callf ?_; first | refine AOps.c1 (h := (h2 ..)) (k := ?_)) | refine AOps.p (W.addU (b := gold) rfl rfl) rfl ?_ | refine AOps.p (W.orU (b := 1) rfl rfl) rfl ?_) | refine WO ?_ | refine All.i fun X => ?_ | refine AllY.i fun Y => ?_)); refine AOps.nil ?_; (repeat refine WN ?_)
    (refine AWP.ret ?_; (repeat (first | refine inB_r ?_ | refine andThen_r ?_)); refine retQ_r ?_)
    unfold rndOf
    rw [he]
    exact Ends.cv [rndA (mixU (s + gold), mixU (mixU (s + gold) + gold) ||| 1)] [rndA (mixU (s + gold), mixU (mixU (s + gold) + gold) ||| 1)] (.cons (.agg (.cons .same (.cons .same .nil))) .nil)
def nextU (r : UInt64 × UInt64) : UInt64 × UInt64 := (r.1 + r.2, r.2)
theorem rndNext_ps (r : UInt64 × UInt64) : PS Tryz.prog 98 [rndA r] (.tup [uA (mixU (nextU r).1), rndA (nextU r)]) := by
  have h1 := mix_ps (r.1 + r.2)
  refine Spec.of (nt := 14) (res := [.tmp 2, .cell 3 70]) Tryz.func98 rfl (by kernel_rfl) rfl rfl rfl fun Sf => ?_
  (repeat refine WF ?_); refine AWP.region ?_; (repeat (first | refine WO ?_ | refine All.i fun R => ?_ | refine AllY.i fun Y => ?_)); refine AOps.nil ?_; (repeat refine WN ?_)
  (repeat refine WF ?_); refine AWP.region ?_; (repeat (first | (refine AOps.gN ?_; first | refine AOps.p (W.addU rfl rfl) rfl ?_) | refine WO ?_ | refine All.i fun X => ?_ | refine AllY.i fun Y => ?_)); refine AOps.nil ?_; (repeat refine WN ?_)
  (repeat refine WF ?_); refine AWP.region_run (by kernel_rfl) (by kernel_rfl) ?_; (repeat (first | (refine RGo.gN ?_; first | refine RGo.c1 (h := h1) (k := ?_)) | (refine RGo.gQ ?_; first | refine RGo.c1 (h := h1) (k := ?_)) | refine RK ?_ | refine RGo.nil (by kernel_rfl) ?_))
  (refine AWP.ret ?_; (repeat (first | refine inB_r ?_ | refine andThen_r ?_)); refine retQ_r ?_)
  exact Ends.cv [uA (mixU (r.1 + r.2)), rndA (nextU r)] [uA (mixU (r.1 + r.2)), rndA (nextU r)] (.cons (.cell .same) (.cons (.agg (.cons .same (.cons .same .nil))) .nil))
end Go.Proofs.YtkoehhpfjpdkcaaGreat

namespace Go.Proofs.YtkoehhpfjpdkcaaGreat
set_option linter.unusedVariables false
open Go.Sort
theorem arr_at {α : Type} [Inhabited α] (f : α → AV) {d : Array α} {i : Nat} (h : i < d.size) : (d.toList.map f)[i]? = some (f d[i]!) := by
  rw [List.getElem?_map, List.getElem?_eq_getElem (by simpa using h)]
  simp [getElem!_pos d i h]
theorem arr_swp {α : Type} [Inhabited α] (f : α → AV) {d : Array α} {i j : Nat} (hi : i < d.size) (hj : j < d.size) : ((d.toList.map f).set i (f d[j]!)).set j (f d[i]!) = (swp d i j).toList.map f := by
  unfold swp
  simp [Array.toList_setIfInBounds, List.map_set]
theorem arr_set2 {α : Type} [Inhabited α] (f : α → AV) {d : Array α} {i j : Nat} (hj : j < d.size) (x : α) : ∃ y, ((d.toList.map f).set i (f x))[j]? = some (f y) := by
  by_cases e : i = j
  · subst e; exact ⟨x, List.getElem?_set_self (by simpa using hj)⟩
  · exact ⟨d[j]!, by rw [List.getElem?_set_ne e]; exact arr_at f hj⟩
/-- The order that a comparison gives. -/
def ltOf {α : Type} (cf : α → α → Int) (x y : α) : Bool := decide (cf x y < 0)
instance : Inhabited Comp := ⟨⟨0, []⟩⟩
end Go.Proofs.YtkoehhpfjpdkcaaGreat

namespace Go.Proofs.YtkoehhpfjpdkcaaGreat
set_option linter.unusedVariables false
open Go.Sort
/-- How many bits each byte needs. -/
def lenTab : List UInt8 := (List.range 256).map fun n => UInt8.ofNat (if n = 0 then 0 else Nat.log2 n + 1)
theorem lenTab_at {n : Nat} (h : n < 256) : ((lenTab.getD n 0).toNat : Int) = bitsLen n := by
  have h1 : lenTab.getD n 0 = UInt8.ofNat (bitsLen n) := by
    unfold lenTab
    rw [List.getD_eq_getElem?_getD, List.getElem?_map, List.getElem?_range h]
    rfl
  have h2 : bitsLen n ≤ 8 := (bitsLen_le_iff n 8).2 (by omega)
  rw [h1, UInt8.toNat_ofNat']
  omega
theorem lenTab_len : lenTab.length = 256 := by simp [lenTab]
theorem bitsLen_div256 {x : Nat} (h : 256 ≤ x) : bitsLen (x / 256) + 8 = bitsLen x := by
  have a := (bitsLen_le_iff (x / 256) (bitsLen x - 8)).2 (by
    have h1 := lt_two_pow_bitsLen x
    have h2 : 8 < bitsLen x := by
      have := (bitsLen_le_iff x 8)
      omega
    have h3 : 2 ^ bitsLen x = 2 ^ (bitsLen x - 8) * 256 := by rw [show (256 : Nat) = 2 ^ 8 from rfl, ← Nat.pow_add]; congr 1; omega
    omega)
  have b := (bitsLen_le_iff x (bitsLen (x / 256) + 8)).2 (by
    have h1 := lt_two_pow_bitsLen (x / 256)
    rw [Nat.pow_add]
    omega)
  have h2 : 8 < bitsLen x := by
    have := (bitsLen_le_iff x 8)
    omega
  omega
set_option maxRecDepth 100000 in
theorem len64_ps (x : UInt64) (hx : x.toNat < 65536) : PS Tryz.prog 108 [uA x] (iA (bitsLen x.toNat)) := by
  refine Spec.of (nt := 25) (res := [.tmp 2]) Tryz.func108 rfl (by kernel_rfl) rfl rfl rfl fun Sf => ?_
  (repeat (first | refine WK ?_ | refine All.i fun X => ?_ | refine AllY.i fun Y => ?_))
  refine AWP.cond_f rfl (decide_eq_false (by omega)) ?_
  (repeat (first | refine WK ?_ | refine All.i fun X => ?_ | refine AllY.i fun Y => ?_))
  refine AWP.cond_f rfl (decide_eq_false (by omega)) ?_
  (repeat (first | refine WK ?_ | refine All.i fun X => ?_ | refine AllY.i fun Y => ?_))
  refine AWP.joinS (fun b : UInt64 × Nat => b.1.toNat < 256 ∧ bitsLen b.1.toNat + b.2 = bitsLen x.toNat ∧ b.2 ≤ 8) (fun b => ⟨[(0, uA b.1), (2, iA b.2)], Sf⟩) ?_ ?_
  · refine AWP.cond rfl (fun h => ?_) (fun h => ?_)
    · have h : 256 ≤ x.toNat := by have := of_decide_eq_true h; omega
      have hs : (x >>> UInt64.ofNat 8).toNat = x.toNat / 256 := by
        rw [UInt64.toNat_shiftRight, UInt64.toNat_ofNat', show 8 % 2 ^ 64 % 64 = 8 from rfl, Nat.shiftRight_eq_div_pow]
      (repeat (first | (refine AOps.gN ?_; first | refine AOps.p (W.shrU 8 (by omega) rfl rfl rfl) rfl ?_) | refine WK ?_ | refine All.i fun X => ?_ | refine AllY.i fun Y => ?_))
      refine jn (x >>> UInt64.ofNat 8, 8) ⟨by dsimp only; omega, ?_, by (try dsimp only); omega⟩
      dsimp only
      rw [hs]
      exact bitsLen_div256 h
    · have h : ¬ 256 ≤ x.toNat := by have := of_decide_eq_false h; omega
      (repeat (first | refine WK ?_ | refine All.i fun X => ?_ | refine AllY.i fun Y => ?_))
      exact jn (x, 0) ⟨by dsimp only; omega, rfl, by (try dsimp only); omega⟩
  · rintro ⟨u, m⟩ ⟨h1, h2, h3⟩
    dsimp only at h1 h2 h3 ⊢
    have hw : IntKind.u8.wrap ((u.toNat : Nat) : Int) = ((u.toNat : Nat) : Int) := by rw [IntKind.wrap_u8']; omega
    have hat := lenTab_at h1
    have hb8 : bitsLen u.toNat ≤ 8 := (bitsLen_le_iff _ 8).2 (by omega)
    have hw2 : IntKind.i64.wrap ((lenTab.getD u.toNat 0).toNat : Int) = ((bitsLen u.toNat : Nat) : Int) := by rw [hat]; exact wrap_id (by omega) (by omega)
    (repeat (first | (refine AOps.gN ?_; first | refine AOps.p (W.convW .u64 .u8 _ (by kernel_rfl) (by kernel_rfl) hw rfl) rfl ?_ | refine AOps.p (W.idxStr (s := lenTab) (a := u.toNat) (by kernel_rfl) rfl rfl (by rw [lenTab_len]; exact h1)) rfl ?_ | refine AOps.p (W.convW .u8 .i64 _ (by kernel_rfl) (by kernel_rfl) hw2 rfl) rfl ?_ | refine AOps.p (W.addE ((bitsLen x.toNat : Nat) : Int) (by omega) (by omega) rfl rfl) rfl ?_) | refine WK ?_ | refine All.i fun X => ?_ | refine AllY.i fun Y => ?_))
    (refine AWP.ret ?_; (repeat (first | refine inB_r ?_ | refine andThen_r ?_)); refine retQ_r ?_); refine Ends.ps ?_
    rfl
theorem len_ps (x : UInt64) (hx : x.toNat < 65536) : PS Tryz.prog 95 [uA x] (iA (bitsLen x.toNat)) := by
  have h := len64_ps x hx
  refine Spec.of (nt := 8) (res := [.tmp 2]) Tryz.func95 rfl (by kernel_rfl) rfl rfl rfl fun Sf => ?_
  (repeat (first | refine WK ?_ | refine All.i fun X => ?_ | refine AllY.i fun Y => ?_))
  refine AWP.cond_f rfl rfl ?_
  (repeat (first | (refine AOps.gN ?_; first | (refine AOps.g_callf ?_; first | refine AOps.c1 (h := (h ..)) (k := ?_))) | refine WK ?_ | refine All.i fun X => ?_ | refine AllY.i fun Y => ?_))
  (refine AWP.ret ?_; (repeat (first | refine inB_r ?_ | refine andThen_r ?_)); refine retQ_r ?_); refine Ends.ps ?_
  rfl
end Go.Proofs.YtkoehhpfjpdkcaaGreat

namespace Go.Proofs.YtkoehhpfjpdkcaaGreat
set_option linter.unusedVariables false
open Go.Sort
def clampI (a : Int) : Int := if 1099511627776 < (if a < -1099511627776 then -1099511627776 else a) then 1099511627776 else if a < -1099511627776 then -1099511627776 else a
theorem clampI_range (a : Int) : -1099511627776 ≤ clampI a ∧ clampI a ≤ 1099511627776 := by unfold clampI; split <;> split <;> omega
theorem clamp_ps (a : Int) : PS Tryz.prog 109 [iA a] (iA (clampI a)) := by
  refine Spec.of (nt := 6) (res := [.tmp 2]) Tryz.func109 rfl (by kernel_rfl) rfl rfl rfl fun Sf => ?_
  (repeat (first | refine WK ?_ | refine All.i fun X => ?_ | refine AllY.i fun Y => ?_))
  (refine AWP.ret ?_; (repeat (first | refine inB_r ?_ | refine andThen_r ?_)); refine retQ_r ?_); refine Ends.ps ?_
  rfl
def magU (a : Int) : UInt64 := UInt64.ofNat a.natAbs
theorem mag_ps (a : Int) (h : -1099511627776 ≤ a ∧ a ≤ 1099511627776) : PS Tryz.prog 110 [iA a] (uA (magU a)) := by
  refine Spec.of (nt := 10) (res := [.tmp 2]) Tryz.func110 rfl (by kernel_rfl) rfl rfl rfl fun Sf => ?_
  unfold magU
  by_cases hn : a < 0
  · (repeat (first | refine WK ?_ | refine All.i fun X => ?_ | refine AllY.i fun Y => ?_))
    refine AWP.cond_t rfl (decide_eq_true hn) ?_
    (repeat refine WF ?_); refine AWP.region ?_; (repeat (first | (refine AOps.gN ?_; first | refine AOps.p (W.negE (-a) rfl (by omega) rfl) rfl ?_ | refine AOps.p (W.toUN .i64 a.natAbs (by omega) (by omega) (by kernel_rfl) (by kernel_rfl) rfl) rfl ?_) | refine WO ?_ | refine All.i fun X => ?_ | refine AllY.i fun Y => ?_)); refine AOps.nil ?_; (repeat refine WN ?_)
    (refine AWP.ret ?_; (repeat (first | refine inB_r ?_ | refine andThen_r ?_)); refine retQ_r ?_); refine Ends.ps ?_
    rfl
  · (repeat (first | refine WK ?_ | refine All.i fun X => ?_ | refine AllY.i fun Y => ?_))
    refine AWP.cond_f rfl (decide_eq_false hn) ?_
    (repeat (first | (refine AOps.gN ?_; first | refine AOps.p (W.toUN .i64 a.natAbs (by omega) (by omega) (by kernel_rfl) (by kernel_rfl) rfl) rfl ?_) | refine WK ?_ | refine All.i fun X => ?_ | refine AllY.i fun Y => ?_))
    (refine AWP.ret ?_; (repeat (first | refine inB_r ?_ | refine andThen_r ?_)); refine retQ_r ?_); refine Ends.ps ?_
    rfl
def mulHi (x y : UInt64) : UInt64 :=
  (x >>> UInt64.ofNat 32) * (y >>> UInt64.ofNat 32) + (((x >>> UInt64.ofNat 32) * (y &&& 4294967295) + ((x &&& 4294967295) * (y &&& 4294967295)) >>> UInt64.ofNat 32) >>> UInt64.ofNat 32) +
    ((((x >>> UInt64.ofNat 32) * (y &&& 4294967295) + ((x &&& 4294967295) * (y &&& 4294967295)) >>> UInt64.ofNat 32) &&& 4294967295) + (x &&& 4294967295) * (y >>> UInt64.ofNat 32)) >>> UInt64.ofNat 32
theorem mul64_ps (x y : UInt64) : PS Tryz.prog 111 [uA x, uA y] (.tup [uA (mulHi x y), uA (x * y)]) := by
  refine Spec.of (nt := 51) (res := [.tmp 4, .tmp 5]) Tryz.func111 rfl (by kernel_rfl) rfl rfl rfl fun Sf => ?_
  (repeat refine WF ?_); refine AWP.region ?_; (repeat (first | refine WO ?_ | refine All.i fun X => ?_ | refine AllY.i fun Y => ?_)); refine AOps.nil ?_; (repeat refine WN ?_)
  (repeat refine WF ?_); refine AWP.region ?_; (repeat (first | (refine AOps.gN ?_; first | refine AOps.p (W.andU (b := 4294967295) rfl rfl) rfl ?_) | refine WO ?_ | refine All.i fun X => ?_ | refine AllY.i fun Y => ?_)); refine AOps.nil ?_; (repeat refine WN ?_)
  (repeat refine WF ?_); refine AWP.region ?_; (repeat (first | (refine AOps.gN ?_; first | refine AOps.p (W.shrU 32 (by omega) rfl rfl rfl) rfl ?_) | refine WO ?_ | refine All.i fun X => ?_ | refine AllY.i fun Y => ?_)); refine AOps.nil ?_; (repeat refine WN ?_)
  (repeat refine WF ?_); refine AWP.region ?_; (repeat (first | (refine AOps.gN ?_; first | refine AOps.p (W.andU (b := 4294967295) rfl rfl) rfl ?_) | refine WO ?_ | refine All.i fun X => ?_ | refine AllY.i fun Y => ?_)); refine AOps.nil ?_; (repeat refine WN ?_)
  (repeat refine WF ?_); refine AWP.region ?_; (repeat (first | (refine AOps.gN ?_; first | refine AOps.p (W.shrU 32 (by omega) rfl rfl rfl) rfl ?_) | refine WO ?_ | refine All.i fun X => ?_ | refine AllY.i fun Y => ?_)); refine AOps.nil ?_; (repeat refine WN ?_)
  (repeat refine WF ?_); refine AWP.region ?_; (repeat (first | (refine AOps.gN ?_; first | refine AOps.p (W.mulU rfl rfl) rfl ?_) | refine WO ?_ | refine All.i fun X => ?_ | refine AllY.i fun Y => ?_)); refine AOps.nil ?_; (repeat refine WN ?_)
  (repeat refine WF ?_); refine AWP.region ?_; (repeat (first | (refine AOps.gN ?_; first | refine AOps.p (W.mulU rfl rfl) rfl ?_ | refine AOps.p (W.shrU 32 (by omega) rfl rfl rfl) rfl ?_ | refine AOps.p (W.addU rfl rfl) rfl ?_) | refine WO ?_ | refine All.i fun X => ?_ | refine AllY.i fun Y => ?_)); refine AOps.nil ?_; (repeat refine WN ?_)
  (repeat refine WF ?_); refine AWP.region ?_; (repeat (first | (refine AOps.gN ?_; first | refine AOps.p (W.andU (b := 4294967295) rfl rfl) rfl ?_) | refine WO ?_ | refine All.i fun X => ?_ | refine AllY.i fun Y => ?_)); refine AOps.nil ?_; (repeat refine WN ?_)
  (repeat refine WF ?_); refine AWP.region ?_; (repeat (first | (refine AOps.gN ?_; first | refine AOps.p (W.shrU 32 (by omega) rfl rfl rfl) rfl ?_) | refine WO ?_ | refine All.i fun X => ?_ | refine AllY.i fun Y => ?_)); refine AOps.nil ?_; (repeat refine WN ?_)
  (repeat refine WF ?_); refine AWP.region ?_; (repeat (first | (refine AOps.gN ?_; first | refine AOps.p (W.mulU rfl rfl) rfl ?_ | refine AOps.p (W.addU rfl rfl) rfl ?_) | refine WO ?_ | refine All.i fun X => ?_ | refine AllY.i fun Y => ?_)); refine AOps.nil ?_; (repeat refine WN ?_)
  (repeat refine WF ?_); refine AWP.region ?_; (repeat (first | (refine AOps.gN ?_; first | refine AOps.p (W.mulU rfl rfl) rfl ?_ | refine AOps.p (W.addU rfl rfl) rfl ?_ | refine AOps.p (W.shrU 32 (by omega) rfl rfl rfl) rfl ?_) | refine WO ?_ | refine All.i fun X => ?_ | refine AllY.i fun Y => ?_)); refine AOps.nil ?_; (repeat refine WN ?_)
  (repeat refine WF ?_); refine AWP.region ?_; (repeat (first | (refine AOps.gN ?_; first | refine AOps.p (W.mulU rfl rfl) rfl ?_) | refine WO ?_ | refine All.i fun X => ?_ | refine AllY.i fun Y => ?_)); refine AOps.nil ?_; (repeat refine WN ?_)
  (refine AWP.ret ?_; (repeat (first | refine inB_r ?_ | refine andThen_r ?_)); refine retQ_r ?_)
  exact Ends.cv [uA (mulHi x y), uA (x * y)] [uA (mulHi x y), uA (x * y)] (.cons (.cell .same) (.cons (.cell .same) .nil))
set_option maxRecDepth 100000 in
theorem lz_ps : PS Tryz.prog 118 [uA 65536] (iA 47) := by
  have hl : PS Tryz.prog 108 [uA 65536] (iA 17) := by
    refine Spec.of (nt := 25) (res := [.tmp 2]) Tryz.func108 rfl (by kernel_rfl) rfl rfl rfl fun Sf => ?_
    (repeat (first | refine WK ?_ | refine All.i fun X => ?_ | refine AllY.i fun Y => ?_))
    refine AWP.cond_f rfl rfl ?_
    (repeat (first | refine WK ?_ | refine All.i fun X => ?_ | refine AllY.i fun Y => ?_))
    refine AWP.cond_t rfl rfl ?_
    (repeat refine WF ?_); refine AWP.region ?_; (repeat (first | (refine AOps.gN ?_; first | refine AOps.p (W.shrU 16 (by omega) rfl rfl rfl) rfl ?_) | refine WO ?_ | refine All.i fun X => ?_ | refine AllY.i fun Y => ?_)); refine AOps.nil ?_; (repeat refine WN ?_)
    obtain ⟨u, hu⟩ : ∃ u : UInt64, (65536 : UInt64) >>> UInt64.ofNat 16 = u := ⟨_, rfl⟩
    rw [hu]
    have h1 : u.toNat = 1 := by rw [← hu]; decide
    clear hu
    (repeat (first | refine WK ?_ | refine All.i fun X => ?_ | refine AllY.i fun Y => ?_))
    refine AWP.cond_f rfl (decide_eq_false (by omega)) ?_
    have hw : IntKind.u8.wrap ((u.toNat : Nat) : Int) = ((u.toNat : Nat) : Int) := by rw [IntKind.wrap_u8']; omega
    have hat := lenTab_at (n := u.toNat) (by omega)
    have hb1 : bitsLen u.toNat = 1 := by rw [h1]; decide
    rw [hb1] at hat
    have hw2 : IntKind.i64.wrap ((lenTab.getD u.toNat 0).toNat : Int) = ((1 : Nat) : Int) := by rw [hat]; exact wrap_id (by omega) (by omega)
    (repeat (first | (refine AOps.gN ?_; first | refine AOps.p (W.convW .u64 .u8 _ (by kernel_rfl) (by kernel_rfl) hw rfl) rfl ?_ | refine AOps.p (W.idxStr (s := lenTab) (a := u.toNat) (show ev _ _ = _ by kernel_rfl) rfl rfl (by rw [lenTab_len]; omega)) rfl ?_ | refine AOps.p (W.convW .u8 .i64 _ (by kernel_rfl) (by kernel_rfl) hw2 rfl) rfl ?_ | refine AOps.p (W.addE 17 rfl (by omega) rfl rfl) rfl ?_) | refine WK ?_ | refine All.i fun X => ?_ | refine AllY.i fun Y => ?_))
    (refine AWP.ret ?_; (repeat (first | refine inB_r ?_ | refine andThen_r ?_)); refine retQ_r ?_); refine Ends.ps ?_
    rfl
  refine Spec.of (nt := 6) (res := [.tmp 2]) Tryz.func118 rfl (by kernel_rfl) rfl rfl rfl fun Sf => ?_
  (repeat (first | (refine AOps.gN ?_; first | (refine AOps.g_callf ?_; first | refine AOps.c1 (h := (hl ..)) (k := ?_)) | refine AOps.p (W.subE 47 rfl (by omega) rfl rfl) rfl ?_) | refine WK ?_ | refine All.i fun X => ?_ | refine AllY.i fun Y => ?_))
  (refine AWP.ret ?_; (repeat (first | refine inB_r ?_ | refine andThen_r ?_)); refine retQ_r ?_); refine Ends.ps ?_
  rfl
def dU (hi lo : UInt64) : UInt64 := (hi <<< UInt64.ofNat 47) ||| (lo >>> UInt64.ofNat 17)
def dL (lo : UInt64) : UInt64 := lo <<< UInt64.ofNat 47
def dR (hi lo : UInt64) : UInt64 := dU hi lo * 4294967296 + (dL lo >>> UInt64.ofNat 32) - dU hi lo / 2147483648 * 9223372036854775808
/-- The quotient and the remainder of a double word by 65536. -/
def div16 (hi lo : UInt64) : UInt64 × UInt64 :=
  (dU hi lo / 2147483648 * 4294967296 + dR hi lo / 2147483648, (dR hi lo * 4294967296 + (dL lo &&& 4294967295) - dR hi lo / 2147483648 * 9223372036854775808) >>> UInt64.ofNat 47)
theorem dU_lt {hi lo : UInt64} (h : hi.toNat < 65536) : (dU hi lo).toNat < 9223372036854775808 := by
  unfold dU
  have h1 : (hi <<< UInt64.ofNat 47).toNat < 2 ^ 63 := by
    rw [UInt64.toNat_shiftLeft, UInt64.toNat_ofNat', show 47 % 2 ^ 64 % 64 = 47 from rfl, Nat.shiftLeft_eq]
    omega
  have h2 : (lo >>> UInt64.ofNat 17).toNat < 2 ^ 63 := by
    rw [UInt64.toNat_shiftRight, UInt64.toNat_ofNat', show 17 % 2 ^ 64 % 64 = 17 from rfl, Nat.shiftRight_eq_div_pow]
    have := lo.toNat_lt
    omega
  rw [UInt64.toNat_or]
  exact Nat.or_lt_two_pow h1 h2
theorem dR_lt {hi lo : UInt64} : (dR hi lo).toNat < 9223372036854775808 := by
  have h2 : (dL lo >>> UInt64.ofNat 32).toNat < 4294967296 := by
    rw [UInt64.toNat_shiftRight, UInt64.toNat_ofNat', show 32 % 2 ^ 64 % 64 = 32 from rfl, Nat.shiftRight_eq_div_pow]
    have := (dL lo).toNat_lt
    omega
  have h0 := (dU hi lo).toNat_lt
  unfold dR
  generalize dL lo >>> UInt64.ofNat 32 = v at h2 ⊢
  generalize dU hi lo = u at h0 ⊢
  rw [UInt64.toNat_sub, UInt64.toNat_add, UInt64.toNat_mul, UInt64.toNat_mul, UInt64.toNat_div]
  rw [show (4294967296 : UInt64).toNat = 4294967296 from rfl, show (2147483648 : UInt64).toNat = 2147483648 from rfl, show (9223372036854775808 : UInt64).toNat = 9223372036854775808 from rfl]
  omega
theorem div64_ps (hi lo : UInt64) (h : hi.toNat < 65536) : PS Tryz.prog 112 [uA hi, uA lo, uA 65536] (.tup [uA (if hi = 0 then lo / 65536 else (div16 hi lo).1), uA (if hi = 0 then lo % 65536 else (div16 hi lo).2)]) := by
  have hu := dU_lt (lo := lo) h
  have hr := dR_lt (hi := hi) (lo := lo)
  refine Spec.of (nt := 135) (res := [.tmp 6, .tmp 7]) Tryz.func112 rfl (by kernel_rfl) rfl rfl rfl fun Sf => ?_
  (repeat (first | refine WK ?_ | refine All.i fun X => ?_ | refine AllY.i fun Y => ?_))
  refine AWP.cond_f rfl rfl ?_
  (repeat (first | refine WK ?_ | refine All.i fun X => ?_ | refine AllY.i fun Y => ?_))
  have hd1 : decide (((65536 : UInt64).toNat : Int) ≤ hi.toNat) = false := decide_eq_false (by rw [show (65536 : UInt64).toNat = 65536 from rfl]; omega)
  refine AWP.cond_f rfl hd1 ?_
  by_cases h0 : hi = 0
  · rw [if_pos h0, if_pos h0]
    subst h0
    (repeat (first | refine WK ?_ | refine All.i fun X => ?_ | refine AllY.i fun Y => ?_))
    refine AWP.cond_t rfl rfl ?_
    (repeat refine WF ?_); refine AWP.region_run (by kernel_rfl) (by kernel_rfl) ?_; (repeat (first | (refine RGo.gN ?_; first | refine RGo.go (h := W.quoU (b := 65536) (by decide) rfl rfl) (k := ?_) | refine RGo.go (h := W.remU (b := 65536) (by decide) rfl rfl) (k := ?_)) | (refine RGo.gQ ?_; first | refine RGo.go (h := W.quoU (b := 65536) (by decide) rfl rfl) (k := ?_) | refine RGo.go (h := W.remU (b := 65536) (by decide) rfl rfl) (k := ?_)) | refine RK ?_ | refine RGo.nil (by kernel_rfl) ?_))
    (refine AWP.ret ?_; (repeat (first | refine inB_r ?_ | refine andThen_r ?_)); refine retQ_r ?_)
    exact Ends.cv [uA (lo / 65536), uA (lo % 65536)] [uA (lo / 65536), uA (lo % 65536)] (.cons (.cell .same) (.cons (.cell .same) .nil))
  rw [if_neg h0, if_neg h0]
  (repeat (first | refine WK ?_ | refine All.i fun X => ?_ | refine AllY.i fun Y => ?_))
  refine AWP.cond_f rfl (decide_eq_false (fun e => h0 (UInt64.toNat_inj.1 (Int.ofNat_inj.1 e)))) ?_
  (repeat refine WF ?_); refine AWP.region ?_; (repeat (first | (refine AOps.gN ?_; first | (refine AOps.g_callf ?_; first | refine AOps.c1 (h := (lz_ps ..)) (k := ?_)) | refine AOps.p (W.toUN .i64 47 rfl (by omega) (by kernel_rfl) (by kernel_rfl) rfl) rfl ?_) | refine WO ?_ | refine All.i fun X => ?_ | refine AllY.i fun Y => ?_)); refine AOps.nil ?_; (repeat refine WN ?_)
  (repeat refine WF ?_); refine AWP.region ?_; (repeat (first | (refine AOps.gN ?_; first | refine AOps.p (W.shlU 47 (by omega) rfl rfl (by decide)) rfl ?_) | refine WO ?_ | refine All.i fun X => ?_ | refine AllY.i fun Y => ?_)); refine AOps.nil ?_; (repeat refine WN ?_)
  rw [show (65536 : UInt64) <<< UInt64.ofNat 47 = 9223372036854775808 from by decide]
  (repeat refine WF ?_); refine AWP.region ?_; (repeat (first | (refine AOps.gN ?_; first | refine AOps.p (W.shrU 32 (by omega) rfl rfl rfl) rfl ?_) | refine WO ?_ | refine All.i fun X => ?_ | refine AllY.i fun Y => ?_)); refine AOps.nil ?_; (repeat refine WN ?_)
  rw [show (9223372036854775808 : UInt64) >>> UInt64.ofNat 32 = 2147483648 from by decide]
  (repeat refine WF ?_); refine AWP.region ?_; (repeat (first | (refine AOps.gN ?_; first | refine AOps.p (W.andU (b := 4294967295) rfl rfl) rfl ?_) | refine WO ?_ | refine All.i fun X => ?_ | refine AllY.i fun Y => ?_)); refine AOps.nil ?_; (repeat refine WN ?_)
  rw [show (9223372036854775808 : UInt64) &&& 4294967295 = 0 from by decide]
  (repeat refine WF ?_); refine AWP.region ?_; (repeat (first | (refine AOps.gN ?_; first | refine AOps.p (W.shlU 47 (by omega) rfl rfl (by decide)) rfl ?_ | refine AOps.p (W.subU (a := 64) rfl rfl) rfl ?_ | refine AOps.p (W.shrU 17 (by omega) rfl rfl (by decide)) rfl ?_ | refine AOps.p (W.orU rfl rfl) rfl ?_) | refine WO ?_ | refine All.i fun X => ?_ | refine AllY.i fun Y => ?_)); refine AOps.nil ?_; (repeat refine WN ?_)
  rw [show (hi <<< UInt64.ofNat 47) ||| (lo >>> UInt64.ofNat 17) = dU hi lo from rfl]
  (repeat refine WF ?_); refine AWP.region ?_; (repeat (first | (refine AOps.gN ?_; first | refine AOps.p (W.shlU 47 (by omega) rfl rfl (by decide)) rfl ?_) | refine WO ?_ | refine All.i fun X => ?_ | refine AllY.i fun Y => ?_)); refine AOps.nil ?_; (repeat refine WN ?_)
  rw [show lo <<< UInt64.ofNat 47 = dL lo from rfl]
  (repeat refine WF ?_); refine AWP.region ?_; (repeat (first | (refine AOps.gN ?_; first | refine AOps.p (W.shrU 32 (by omega) rfl rfl rfl) rfl ?_) | refine WO ?_ | refine All.i fun X => ?_ | refine AllY.i fun Y => ?_)); refine AOps.nil ?_; (repeat refine WN ?_)
  (repeat refine WF ?_); refine AWP.region ?_; (repeat (first | (refine AOps.gN ?_; first | refine AOps.p (W.andU (b := 4294967295) rfl rfl) rfl ?_) | refine WO ?_ | refine All.i fun X => ?_ | refine AllY.i fun Y => ?_)); refine AOps.nil ?_; (repeat refine WN ?_)
  (repeat refine WF ?_); refine AWP.region ?_; (repeat (first | (refine AOps.gN ?_; first | refine AOps.p (W.quoU (b := 2147483648) (by decide) rfl rfl) rfl ?_) | refine WO ?_ | refine All.i fun X => ?_ | refine AllY.i fun Y => ?_)); refine AOps.nil ?_; (repeat refine WN ?_)
  (repeat refine WF ?_); refine AWP.region ?_; (repeat (first | (refine AOps.gN ?_; first | refine AOps.p (W.mulU (b := 2147483648) rfl rfl) rfl ?_ | refine AOps.p (W.subU rfl rfl) rfl ?_) | refine WO ?_ | refine All.i fun X => ?_ | refine AllY.i fun Y => ?_)); refine AOps.nil ?_; (repeat refine WN ?_)
  have c1 : ∀ u : UInt64, u.toNat < 9223372036854775808 → decide (((u / 2147483648).toNat : Int) ≥ 4294967296) = false := fun u hu => decide_eq_false (by
    rw [UInt64.toNat_div, show (2147483648 : UInt64).toNat = 2147483648 from rfl]
    omega)
  have c2 : ∀ (a b : UInt64), decide (((a * 0 : UInt64).toNat : Int) > b.toNat) = false := fun a b => decide_eq_false (by
    rw [show a * 0 = 0 from UInt64.mul_zero]
    show ¬ ((0 : Nat) : Int) > b.toNat
    omega)
  have c1u := c1 _ hu
  have c1r := c1 _ hr
  (repeat first | refine AOps.nil ?_ | refine WF ?_)
  refine AWP.lp (fun _ : Unit => ⟨[(2, uA 9223372036854775808), (8, uA (UInt64.ofNat 47)), (9, uA 2147483648), (10, uA 0), (11, uA (dU hi lo)), (13, uA (dL lo >>> UInt64.ofNat 32)), (14, uA (dL lo &&& 4294967295)), (15, uA (dU hi lo / 2147483648)), (16, uA (dU hi lo - dU hi lo / 2147483648 * 2147483648))], Sf⟩) (fun _ => True) (fun _ => 0) () trivial ?_
  rintro _ _
  (repeat (first | (refine AOps.gN ?_; first | refine AOps.go (h := W.mulU (b := 0) rfl rfl) (k := ?_) | refine AOps.go (h := W.mulU (a := 4294967296) rfl rfl) (k := ?_) | refine AOps.go (h := W.addU rfl rfl) (k := ?_)) | refine WK ?_ | refine All.i fun X => ?_ | refine AllY.i fun Y => ?_))
  refine AWP.cond_f rfl (c2 _ _) ?_
  (repeat first | refine AOps.nil ?_ | refine WF ?_)
  (repeat refine WF ?_); refine AWP.region ?_; (repeat (first | (refine AOps.gN ?_; first | refine AOps.p (W.mulU (b := 4294967296) rfl rfl) rfl ?_ | refine AOps.p (W.addU rfl rfl) rfl ?_ | refine AOps.p (W.mulU (b := 9223372036854775808) rfl rfl) rfl ?_ | refine AOps.p (W.subU rfl rfl) rfl ?_) | refine WO ?_ | refine All.i fun X => ?_ | refine AllY.i fun Y => ?_)); refine AOps.nil ?_; (repeat refine WN ?_)
  rw [show dU hi lo * 4294967296 + (dL lo >>> UInt64.ofNat 32) - dU hi lo / 2147483648 * 9223372036854775808 = dR hi lo from rfl]
  (repeat refine WF ?_); refine AWP.region ?_; (repeat (first | (refine AOps.gN ?_; first | refine AOps.p (W.quoU (b := 2147483648) (by decide) rfl rfl) rfl ?_) | refine WO ?_ | refine All.i fun X => ?_ | refine AllY.i fun Y => ?_)); refine AOps.nil ?_; (repeat refine WN ?_)
  (repeat refine WF ?_); refine AWP.region ?_; (repeat (first | (refine AOps.gN ?_; first | refine AOps.p (W.mulU (b := 2147483648) rfl rfl) rfl ?_ | refine AOps.p (W.subU rfl rfl) rfl ?_) | refine WO ?_ | refine All.i fun X => ?_ | refine AllY.i fun Y => ?_)); refine AOps.nil ?_; (repeat refine WN ?_)
  (repeat first | refine AOps.nil ?_ | refine WF ?_)
  refine AWP.lp (fun _ : Unit => ⟨[(2, uA 9223372036854775808), (8, uA (UInt64.ofNat 47)), (9, uA 2147483648), (10, uA 0), (14, uA (dL lo &&& 4294967295)), (15, uA (dU hi lo / 2147483648)), (16, uA (dR hi lo - dR hi lo / 2147483648 * 2147483648)), (17, uA (dR hi lo)), (18, uA (dR hi lo / 2147483648))], Sf⟩) (fun _ => True) (fun _ => 0) () trivial ?_
  rintro _ _
  (repeat (first | (refine AOps.gN ?_; first | refine AOps.go (h := W.mulU (b := 0) rfl rfl) (k := ?_) | refine AOps.go (h := W.mulU (a := 4294967296) rfl rfl) (k := ?_) | refine AOps.go (h := W.addU rfl rfl) (k := ?_)) | refine WK ?_ | refine All.i fun X => ?_ | refine AllY.i fun Y => ?_))
  refine AWP.cond_f rfl (c2 _ _) ?_
  (repeat first | refine AOps.nil ?_ | refine WF ?_)
  (repeat refine WF ?_); refine AWP.region ?_; (repeat (first | (refine AOps.gN ?_; first | refine AOps.p (W.mulU (b := 4294967296) rfl rfl) rfl ?_ | refine AOps.p (W.addU rfl rfl) rfl ?_ | refine AOps.p (W.mulU (b := 9223372036854775808) rfl rfl) rfl ?_ | refine AOps.p (W.subU rfl rfl) rfl ?_ | refine AOps.p (W.shrU 47 (by omega) rfl rfl (by decide)) rfl ?_) | refine WO ?_ | refine All.i fun X => ?_ | refine AllY.i fun Y => ?_)); refine AOps.nil ?_; (repeat refine WN ?_)
  (refine AWP.ret ?_; (repeat (first | refine inB_r ?_ | refine andThen_r ?_)); refine retQ_r ?_)
  exact Ends.cv [uA (div16 hi lo).1, uA (div16 hi lo).2] [uA (div16 hi lo).1, uA (div16 hi lo).2] (.cons (.cell .same) (.cons (.cell .same) .nil))
end Go.Proofs.YtkoehhpfjpdkcaaGreat
