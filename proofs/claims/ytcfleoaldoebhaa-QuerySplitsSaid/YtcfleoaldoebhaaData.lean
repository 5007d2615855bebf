/-
  The plain data of the program's package api, as Lean structures. No conditions.
-/
namespace Go.Proofs.Ytcfleoaldoebhaa
set_option linter.unusedSimpArgs false
set_option linter.unusedVariables false

structure Field where
  name : List UInt8
  bits : Int
  low : Int
structure Kind where
  name : List UInt8
  fields : List Field
structure Ent where
  n : Int
  gen : Int
structure Comp where
  kind : Int
  vals : List Int
structure Item where
  ent : Ent
  comps : List Comp
structure Wd where
  kinds : List Kind
  gens : List Int
  items : List Item
structure Evt where
  sys : Int
  ent : Ent
  val : Int
structure Ref where
  kind : Int
  field : Int
structure Arg where
  has : Bool
  n : Int
  ref : Ref
structure Op where
  act : Int
  to : Ref
  a : Arg
  b : Arg
structure Sys where
  name : List UInt8
  wth : List Int
  wout : List Int
  reads : List Int
  writes : List Int
  ops : List Op
  spawn : List Comp


instance : DecidableEq Field := fun a b => decidable_of_iff (a.name = b.name ∧ a.bits = b.bits ∧ a.low = b.low) (by cases a; cases b; simp)
instance : Inhabited Field := ⟨⟨default, default, default⟩⟩
instance : DecidableEq Kind := fun a b => decidable_of_iff (a.name = b.name ∧ a.fields = b.fields) (by cases a; cases b; simp)
instance : Inhabited Kind := ⟨⟨default, default⟩⟩
instance : DecidableEq Ent := fun a b => decidable_of_iff (a.n = b.n ∧ a.gen = b.gen) (by cases a; cases b; simp)
instance : Inhabited Ent := ⟨⟨default, default⟩⟩
instance : DecidableEq Comp := fun a b => decidable_of_iff (a.kind = b.kind ∧ a.vals = b.vals) (by cases a; cases b; simp)
instance : Inhabited Comp := ⟨⟨default, default⟩⟩
instance : DecidableEq Item := fun a b => decidable_of_iff (a.ent = b.ent ∧ a.comps = b.comps) (by cases a; cases b; simp)
instance : Inhabited Item := ⟨⟨default, default⟩⟩
instance : DecidableEq Wd := fun a b => decidable_of_iff (a.kinds = b.kinds ∧ a.gens = b.gens ∧ a.items = b.items) (by cases a; cases b; simp)
instance : Inhabited Wd := ⟨⟨default, default, default⟩⟩
instance : DecidableEq Evt := fun a b => decidable_of_iff (a.sys = b.sys ∧ a.ent = b.ent ∧ a.val = b.val) (by cases a; cases b; simp)
instance : Inhabited Evt := ⟨⟨default, default, default⟩⟩
instance : DecidableEq Ref := fun a b => decidable_of_iff (a.kind = b.kind ∧ a.field = b.field) (by cases a; cases b; simp)
instance : Inhabited Ref := ⟨⟨default, default⟩⟩
instance : DecidableEq Arg := fun a b => decidable_of_iff (a.has = b.has ∧ a.n = b.n ∧ a.ref = b.ref) (by cases a; cases b; simp)
instance : Inhabited Arg := ⟨⟨default, default, default⟩⟩
instance : DecidableEq Op := fun a b => decidable_of_iff (a.act = b.act ∧ a.to = b.to ∧ a.a = b.a ∧ a.b = b.b) (by cases a; cases b; simp)
instance : Inhabited Op := ⟨⟨default, default, default, default⟩⟩
instance : DecidableEq Sys := fun a b => decidable_of_iff (a.name = b.name ∧ a.wth = b.wth ∧ a.wout = b.wout ∧ a.reads = b.reads ∧ a.writes = b.writes ∧ a.ops = b.ops ∧ a.spawn = b.spawn) (by cases a; cases b; simp)
instance : Inhabited Sys := ⟨⟨default, default, default, default, default, default, default⟩⟩

/-- A number of Go's type int. -/
def I64 (x : Int) : Prop := -9223372036854775808 ≤ x ∧ x ≤ 9223372036854775807
end Go.Proofs.Ytcfleoaldoebhaa
